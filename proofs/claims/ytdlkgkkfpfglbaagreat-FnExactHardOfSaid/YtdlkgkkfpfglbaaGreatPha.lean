import Derived.Test.YtdlkgkkfpfglbaaGreatAxM
namespace Go.Aw.Pl
open Go.IntKind (wrap)
open List (length)
open Go Go.Aw
set_option linter.unusedVariables false
set_option linter.unusedSimpArgs false
set_option maxHeartbeats 1000000
abbrev eN:=(Int×(Int×Unit))
abbrev aW:=(Int×(Int×eN))
abbrev eO:=(Int×((List UInt8)×((List UInt8)×eN)))
abbrev cL:=(Int×(Int×((List eO)×Unit)))
abbrev aK:=(Int×(Int×(Int×(Int×((List eN)×Unit)))))
abbrev aM:=(Int×(Int×((List UInt8)×((List UInt8)×Unit))))
abbrev Cmd:=(Int×(Int×(Int×(Int×aM))))
abbrev aL:=(Int×(Cmd×Unit))
abbrev iT:=(Int×(Int×((List aL)×Unit)))
abbrev aJ:=(Int×((List Int)×((List Int)×((List Int)×Unit))))
abbrev eE:=(Int×(Int×(Int×(Int×((List aL)×((List UInt8)×Unit))))))
abbrev bI:=((List cL)×((List aK)×((List aJ)×(Int×((List Int)×((List aM)×Unit))))))
abbrev jV:=(Int×(Int×(iT×(bI×Unit))))
abbrev rF:=((0:Int),((0:Int),((0:Int),((0:Int),(([]:List eN),())))))
abbrev vB:=((0:Int),(([]:List Int),(([]:List Int),(([]:List Int),()))))
abbrev zk9:Ty:=(.pair (.int .i64) (.pair (.int .i64) .unit))
abbrev aDp:Type:=(Int×(Unit×((List cL)×((List aK)×((List aJ)×((List Int)×((List aM)×Unit)))))))
abbrev zt3:Type:=(Int×(Unit×((List cL)×((List aK)×((List aJ)×((List Int)×((List aM)×aDp)))))))
abbrev sI:=((0:Int),((0:Int),(([]:List UInt8),(([]:List UInt8),()))))
abbrev wX:=((0:Int),(((0:Int),((0:Int),((0:Int),((0:Int),sI)))),()))
abbrev oR:=((0:Int),((0:Int),(([]:List eO),())))
abbrev aAh:Ty:=(.pair (.int .i64) (.pair (.sl 0 (.int .i64)) (.pair (.sl 0 (.int .i64)) (.pair (.sl 0 (.int .i64)) .unit))))
abbrev aBX:=(([]:List cL),(([]:List aK),(([]:List aJ),((0:Int),(([]:List Int),(([]:List aM),()))))))
abbrev aBa:=((0:Int),((0:Int),((0:Int),((0:Int),(([]:List aL),(([]:List UInt8),()))))))
abbrev aBr:Ty:=(.pair (.int .i64) (.pair (.int .i64) (.pair (.int .i64) (.pair (.int .i64) (.pair (.sl 0 zk9) .unit)))))
abbrev kZ:Type:=(Unit×(Bool×Unit))
abbrev aN4:Type:=(Int×(aW×(Int×(Int×(Int×(Int×(Unit×(Int×(Unit×(Unit×((List aL)×((List cL)×((List aK)×((List aJ)×((List Int)×((List aM)×(Int×(Int×(Int×(Int×(Unit×(Int×(Unit×(Unit×((List aL)×((List cL)×((List aK)×((List aJ)×((List Int)×((List aM)×((List eE)×Unit)))))))))))))))))))))))))))))))
abbrev rL:Type:=(Int×(Int×(iT×(bI×Unit))))
abbrev aBw:Ty:=(.pair (.int .i64) (.pair (.int .i64) (.pair .str (.pair .str .unit))))
abbrev nW:=((0:Int),((0:Int),()))
abbrev vZ:=((0:Int),(([]:List UInt8),(([]:List UInt8),nW)))
abbrev aN5:Type:=(Int×(Int×(Int×(Int×(Unit×(Int×(Unit×(Unit×((List aL)×((List cL)×((List aK)×((List aJ)×((List Int)×((List aM)×(Int×(Int×(Int×(Int×(Unit×(Int×(Unit×(Unit×((List aL)×((List cL)×((List aK)×((List aJ)×((List Int)×((List aM)×Unit))))))))))))))))))))))))))))
abbrev wG:Ty:=(.pair (.int .i64) (.pair (.int .i64) zk9))
abbrev aHk:Type:=((List aK)×((Int×((List Int)×((List aM)×Unit)))×((List cL)×((List aJ)×aDp))))
abbrev tH:=((0:Int),(false,()))
abbrev tG:Type:=((List Int)×Unit)
abbrev aL4:Type:=(Int×(Int×(Int×(Int×(Unit×((List eN)×Unit))))))
abbrev xT:Type:=(Unit×(Int×Unit))
abbrev aN8:=((0:Int),((),(([]:List cL),(([]:List aK),(([]:List aJ),(([]:List Int),(([]:List aM),())))))))
abbrev aKt:Ty:=(.pair (.int .i64) (.pair (.int .i64) (.pair (.int .i64) (.pair (.int .i64) aBw))))
abbrev zk2:Ty:=(.pair (.int .i64) (.pair aKt .unit))
abbrev aAi:Ty:=(.pair (.int .i64) (.pair (.int .i64) (.pair (.sl 0 zk2) .unit)))
abbrev aHu:Ty:=(.pair (.int .i64) (.pair (.int .i64) (.pair (.int .i64) (.pair (.int .i64) (.pair (.sl 0 zk2) (.pair .str .unit))))))
abbrev aHJ:Type:=(Int×(Int×(Unit×((List eO)×Unit))))
abbrev wM:Ty:=(.sl 0 (.int .u8))
abbrev oS:Ty:=(.pair wM (.pair (.int .i64) (.pair .bool .unit)))
abbrev aMX:Type:=(iT×(Int×(Int×(Unit×((List aL)×(Int×(Int×(Unit×((List aL)×Unit)))))))))
abbrev aHG:Ty:=(.pair (.int .i64) (.pair .str (.pair .str zk9)))
abbrev aAj:Ty:=(.pair (.int .i64) (.pair (.int .i64) (.pair (.sl 0 aHG) .unit)))
abbrev zk1:Ty:=(.pair (.sl 0 aAj) (.pair (.sl 0 aBr) (.pair (.sl 0 aAh) (.pair (.int .i64) (.pair (.sl 0 (.int .i64)) (.pair (.sl 0 aBw) .unit))))))
abbrev aEM:Ty:=(.pair (.int .i64) (.pair (.int .i64) (.pair aAi (.pair zk1 .unit))))
abbrev aJl:=((0:Int),((0:Int),(([]:List aL),())))
abbrev aMI:Type:=(Int×(Int×(Unit×(List aL×(Int×(Int×(Unit×(List aL×Unit))))))))
abbrev aCu:Type:=((List UInt8)×Unit)
abbrev aJ9:Type:=(Int×(Int×(Int×(Int×(aCu×((List aL)×Unit))))))
abbrev aDq:Type:=(Int×(Bool×Unit))
abbrev jT:Type:=((List Int)×aDq)
abbrev aDg:Type:=(jT×(Int×(Unit×((List Int)×((List Int)×((List Int)×(Int×(Unit×((List Int)×((List Int)×tG))))))))))
abbrev aMB:Type:=(aW×(Int×(Unit×((List cL)×((List aK)×((List aJ)×((List Int)×((List aM)×(jT×aDp)))))))))
abbrev aMT:Type:=(jT×(Int×(Unit×((List cL)×((List aK)×((List aJ)×((List Int)×((List aM)×(aW×Unit)))))))))
abbrev aMO:Type:=(jT×(Int×(Int×(Int×(Int×(Unit×((List eN)×aL4)))))))
abbrev aDk:Type:=(Int×(jT×zt3))
abbrev aF9:Type:=(aW×(bI×Unit))
abbrev aAs:Type:=(aJ×Unit)
abbrev aN6:Type:=(jT×(Int×(Unit×((List Int)×((List Int)×tG)))))
theorem iV{n:Int}(h1:-9223372036854775808<=n)(h2:n<=9223372036854775807):wrap .i64 n=n:=by
 simp[wrap,IntKind.signed,IntKind.bits];omega
theorem w8{n:Int}(h1:0<=n)(h2:n<=255):wrap .u8 n=n:=by
 simp[wrap,IntKind.signed,IntKind.bits];omega
theorem aP5{n:Int}:inK .i64 n↔-9223372036854775808<=n/\n<=9223372036854775807:=by
 unfold inK;rw[aJO,aK3]
theorem in8{n:Int}:inK .u8 n↔0<=n/\n<=255:=by
 unfold inK;rfl
theorem lH:maxLen=9223372036854775807:=rfl
def dI{α:Type}(xs:List α):Bool:=decide (xs.length<=16777216)
theorem cC{α:Type}{xs:List α}:dI xs=true↔xs.length<=16777216:=by simp[dI]
theorem eV{α:Type}{xs:List α}{i:Nat}{d:α}(h:i<xs.length):xs.getD i d=xs[i]:=by
 rw[List.getD_eq_getElem?_getD,Zm h];rfl
def letB{α β:Type}(a:α)(f:α->β):β:=f a
open Classical in
noncomputable def same{α:Type}(a b:α):Bool:=decide (a=b)
theorem bV{α:Type}{a b:α}:same a b=true↔a=b:=by simp[same]
theorem aQ{α:Type}{a b:α}:same a b=false↔¬a=b:=by simp[same]
theorem pT{α:Type}(a:α):same a a=true:=bV.2 rfl
theorem aBZ{α:Type}(l:List α)(i:Nat)(v:α):l.modify i (fun _=>v)=l.set i v:=by
 apply List.ext_getElem?
 intro j
 rw[List.getElem?_modify,List.getElem?_set]
 by_cases h:i=j
 . subst h
   rcases Nat.lt_or_ge i l.length with hl|hl
   . simp[hl]
   . simp[List.getElem?_eq_none hl,Nat.not_lt.2 hl]
 . simp[h]
section
variable {α:Type}
abbrev ToS(α:Type):=List α×(Int×(List α×Unit))
def aLm:ToS α->Prop:=fun s=>s.1.length<=maxLen/\0<=s.2.1/\s.2.1.toNat<=s.1.length/\s.2.2.1.length=s.1.length/\s.2.2.1.take s.2.1.toNat=s.1.take s.2.1.toNat
open Classical in
noncomputable def aBB(s:ToS α):Bool:=decide (aLm s)
def aKQ:ToS α->List α×Unit:=fun s=>(s.1,())
def aKF:ToS α->Nat:=fun s=>s.1.length-s.2.1.toNat
theorem qG{s:ToS α}:aBB s=true↔aLm s:=by simp[aBB]
theorem aMg{x1:List α}{x2:Int}{x3:List α}(hp:aBB (x1,(x2,(x3,())))=true)(hlt:x2<(x1.length:Int))(d:α):
 x2<(x3.length:Int)/\0<=x2/\Rounds aBB aKF aKQ (x1,(x2,(x3,()))) (some (.inl (x1,(wrap .i64 (x2+1),(x3.modify x2.toNat (fun _=>x1.getD x2.toNat d),()))))):=by
 rw[qG] at hp
 obtain⟨h1,h2,h3,h4,h5⟩:=hp
 simp only[] at h1 h2 h3 h4 h5
 have hM:=lH
 have hn:x2.toNat<x1.length:=by omega
 refine⟨by omega,h2,?_⟩
 simp only[Rounds,iV (n:=x2+1) (by omega) (by omega),qG]
 refine⟨⟨h1,by show 0<=x2+1;omega,by show(x2+1).toNat<=x1.length;omega,by show(List.modify _ _ _).length=_;rw[List.length_modify];exact h4,?_⟩,by simp only[aKF];omega,rfl⟩
 show List.take (x2+1).toNat (x3.modify x2.toNat (fun _=>x1.getD x2.toNat d))=List.take (x2+1).toNat x1
 rw[aBZ,show(x2+1).toNat=x2.toNat+1 by omega,List.take_add_one,List.take_add_one,List.take_set_of_le (by omega),h5]
 congr 1
 rw[List.getElem?_set_self (by omega),eV hn,Zm hn]
theorem aO8{x1:List α}{x2:Int}{x3:List α}(hp:aBB (x1,(x2,(x3,())))=true)(hlt:¬x2<(x1.length:Int)):
 Rounds aBB aKF aKQ (x1,(x2,(x3,()))) (some (.inr (x3,()))):=by
 rw[qG] at hp
 obtain⟨h1,h2,h3,h4,h5⟩:=hp
 simp only[] at h1 h2 h3 h4 h5
 have:x2.toNat=x1.length:=by omega
 rw[this,List.take_length,<-h4,List.take_length] at h5
 simp only[Rounds,aKQ,h5]
theorem aM8{x:List α}(h:x.length<=maxLen)(d:α):aBB (x,((0:Int),(List.replicate (Int.toNat ((x.length:Nat):Int)) d,())))=true:=by
 rw[qG]
 exact⟨h,by simp,by simp,by simp,by simp⟩
abbrev EqS(α:Type):=List α×(List α×(Int×Unit))
def sV:EqS α->Bool:=fun s=>decide (s.1.length<=maxLen)&&decide (0<=s.2.2.1)&&decide (s.2.2.1.toNat<=s.1.length)&&decide (s.2.1.length=s.1.length)
open Classical in
noncomputable def aA0:EqS α->(Bool×Unit)⊕Unit:=fun s=>if s.1.drop s.2.2.1.toNat=s.2.1.drop s.2.2.1.toNat then .inr () else .inl (false,())
def aCF:EqS α->Nat:=fun s=>s.1.length-s.2.2.1.toNat
theorem vD{x1 x2:List α}{x3:Int}(hp:sV (x1,(x2,(x3,())))=true)(hlt:x3<(x1.length:Int))(d:α):
 0<=x3/\x3<(x2.length:Int)/\(x1.getD x3.toNat d=x2.getD x3.toNat d->Rounds sV aCF aA0 (x1,(x2,(x3,()))) (some (.inl (x1,(x2,(wrap .i64 (x3+1),()))))))/\
  (¬x1.getD x3.toNat d=x2.getD x3.toNat d->Rounds sV aCF aA0 (x1,(x2,(x3,()))) (some (.inr (.inl (false,()))))):=by
 simp only[sV,Zb,Za] at hp
 obtain⟨⟨⟨h1,h2⟩,h3⟩,h4⟩:=hp
 have hM:=lH
 have hn:x3.toNat<x1.length:=by omega
 have hn2:x3.toNat<x2.length:=by omega
 have e1:=Zn hn
 have e2:=Zn hn2
 rw[eV hn,eV hn2]
 refine⟨h2,by omega,fun he=>?_,fun he=>?_⟩
 . simp only[Rounds,iV (n:=x3+1) (by omega) (by omega)]
   refine⟨?_,by simp only[aCF];omega,?_⟩
   . simp only[sV,Zb,Za]
     exact⟨⟨⟨h1,by omega⟩,by omega⟩,h4⟩
   . have hi:x1.drop (x3+1).toNat=x2.drop (x3+1).toNat↔x1.drop x3.toNat=x2.drop x3.toNat:=by
      rw[show(x3+1).toNat=x3.toNat+1 by omega,e1,e2,he,List.cons.injEq];simp
     simp only[aA0]
     by_cases hc:x1.drop x3.toNat=x2.drop x3.toNat
     . rw[if_pos hc,if_pos (hi.2 hc)]
     . rw[if_neg hc,if_neg (fun h=>hc (hi.1 h))]
 . simp only[Rounds,aA0]
   rw[if_neg]
   rw[e1,e2,List.cons.injEq]
   exact fun h=>he h.1
theorem zZ{x1 x2:List α}{x3:Int}(hp:sV (x1,(x2,(x3,())))=true)(hlt:¬x3<(x1.length:Int)):
 Rounds sV aCF aA0 (x1,(x2,(x3,()))) (some (.inr (.inr ()))):=by
 simp only[sV,Zb,Za] at hp
 obtain⟨⟨⟨h1,h2⟩,h3⟩,h4⟩:=hp
 simp only[Rounds,aA0]
 rw[Zt (by omega),Zt (by omega),if_pos rfl]
theorem sJ{x0 x1:List α}(h:x0.length<=maxLen)(hl:(x0.length:Int)=(x1.length:Int)):sV (x0,(x1,((0:Int),())))=true:=by
 simp only[sV,Zb,Za]
 exact⟨⟨⟨h,by omega⟩,by omega⟩,by omega⟩
theorem vN{x0 x1:List α}(h:x0=x1):aA0 (x0,(x1,((0:Int),())))=.inr ():=by
 unfold aA0
 exact if_pos h
theorem vO{x0 x1:List α}(h:¬x0=x1):aA0 (x0,(x1,((0:Int),())))=.inl (false,()):=by
 unfold aA0
 exact if_neg h
end
def aB(n lo hi:Int):Bool:=decide (lo<=n)&&decide (n<=hi)
namespace aB
abbrev wf(x0:Int)(x1:Int)(x2:Int):Prop:=fW [(.val (.int .i64) .f),(.val (.int .i64) .f),(.val (.int .i64) .f)] (x0,(x1,(x2,())))
noncomputable def aR(x0:Int)(x1:Int)(x2:Int):Option kZ:=
 if(decide (x1<=x0))=true then
 some ((),((decide (x0<=x2)),()))
 else
 some ((),(false,()))
theorem eq(x0 x1 x2:Int)(_:wf x0 x1 x2):aR x0 x1 x2=some ((),(aB x0 x1 x2,())):=by
 unfold aR aB
 by_cases h:x1<=x0<;>simp[h]
end aB
abbrev dW:=aB
namespace dW
abbrev wf(x0:Int)(x1:Int)(x2:Int):Prop:=fW [(.val (.int .i64) .f),(.val (.int .i64) .f),(.val (.int .i64) .f)] (x0,(x1,(x2,())))
noncomputable def aR(x0:Int)(x1:Int)(x2:Int):Option kZ:=
 if(decide (x1<=x0))=true then
 some ((),((decide (x0<=x2)),()))
 else
 some ((),(false,()))
theorem eq(x0 x1 x2:Int)(_:wf x0 x1 x2):aR x0 x1 x2=some ((),(dW x0 x1 x2,())):=by
 unfold aR dW aB
 by_cases h:x1<=x0<;>simp[h]
end dW
def aCe(c:UInt8):Bool:=(decide (97<=c.toNat)&&decide (c.toNat<=122))||(decide (48<=c.toNat)&&decide (c.toNat<=57))||decide (c.toNat=32)
def gI(s:List UInt8):Bool:=s.all aCe&&decide (s.length<=30)
abbrev TxS:=List UInt8×(Int×Unit)
def aAg:TxS->Bool:=fun s=>decide (s.1.length<=maxLen)&&decide (0<=s.2.1)&&decide (s.2.1.toNat<=s.1.length)
def aFt:TxS->(Bool×Unit)⊕(List UInt8×Unit):=fun s=>if(s.1.drop s.2.1.toNat).all aCe=true then .inr (s.1,()) else .inl (false,())
def aKW:TxS->Nat:=fun s=>s.1.length-s.2.1.toNat
theorem aJS{x1:List UInt8}{x2:Int}(hp:aAg (x1,(x2,()))=true)(hlt:x2<(x1.length:Int)):
 0<=x2/\(aCe (x1.getD x2.toNat 0)=true->Rounds aAg aKW aFt (x1,(x2,())) (some (.inl (x1,(wrap .i64 (x2+1),())))))/\
  (aCe (x1.getD x2.toNat 0)=false->Rounds aAg aKW aFt (x1,(x2,())) (some (.inr (.inl (false,()))))):=by
 simp only[aAg,Zb,Za] at hp
 obtain⟨⟨h1,h2⟩,h3⟩:=hp
 have hM:=lH
 have hn:x2.toNat<x1.length:=by omega
 have e1:=Zn hn
 rw[eV hn]
 refine⟨h2,fun he=>?_,fun he=>?_⟩
 . simp only[Rounds,iV (n:=x2+1) (by omega) (by omega)]
   refine⟨?_,by simp only[aKW];omega,?_⟩
   . simp only[aAg,Zb,Za]
     exact⟨⟨h1,by omega⟩,by omega⟩
   . simp only[aFt,show(x2+1).toNat=x2.toNat+1 by omega,e1,List.all_cons,he,Bool.true_and]
 . simp only[Rounds,aFt,e1,List.all_cons,he,Bool.false_and,Zj,if_false]
theorem aLN{x1:List UInt8}{x2:Int}(hp:aAg (x1,(x2,()))=true)(hlt:¬x2<(x1.length:Int)):
 Rounds aAg aKW aFt (x1,(x2,())) (some (.inr (.inr (x1,())))):=by
 simp only[aAg,Zb,Za] at hp
 obtain⟨⟨h1,h2⟩,h3⟩:=hp
 simp only[Rounds,aFt]
 rw[Zt (by omega)]
 rfl
theorem aNj{x0:List UInt8}(h:x0.length<=maxLen):aAg (x0,((0:Int),()))=true:=by simp[aAg,h]
abbrev iF:=gI
abbrev jH:=gI
namespace iF
def pre2:=aAg
def fn2:=aFt
def kY:=aKW
noncomputable def cW(x1:(List UInt8))(x2:Int):Option (((List UInt8)×(Int×Unit))⊕((Bool×Unit)⊕aCu)):=
 if(decide (x2<((length x1:Nat):Int)))=true then
 if(decide ((0:Int)<=x2))=true then
 if(decide (x2<((length x1:Nat):Int)))=true then
 if(decide (((UInt8.toNat (List.getD x1 (Int.toNat x2) 0):Nat):Int)<(97:Int)))=true then
 if(decide (((UInt8.toNat (List.getD x1 (Int.toNat x2) 0):Nat):Int)<(48:Int)))=true then
 if(!(decide (((UInt8.toNat (List.getD x1 (Int.toNat x2) 0):Nat):Int)=(32:Int))))=true then
 some (.inr (.inl (false,())))
 else
 some (.inl (x1,((wrap .i64 (x2+(1:Int))),())))
 else
 if(decide ((57:Int)<((UInt8.toNat (List.getD x1 (Int.toNat x2) 0):Nat):Int)))=true then
 if(!(decide (((UInt8.toNat (List.getD x1 (Int.toNat x2) 0):Nat):Int)=(32:Int))))=true then
 some (.inr (.inl (false,())))
 else
 some (.inl (x1,((wrap .i64 (x2+(1:Int))),())))
 else
 some (.inl (x1,((wrap .i64 (x2+(1:Int))),())))
 else
 if(decide ((122:Int)<((UInt8.toNat (List.getD x1 (Int.toNat x2) 0):Nat):Int)))=true then
 if(decide (((UInt8.toNat (List.getD x1 (Int.toNat x2) 0):Nat):Int)<(48:Int)))=true then
 if(!(decide (((UInt8.toNat (List.getD x1 (Int.toNat x2) 0):Nat):Int)=(32:Int))))=true then
 some (.inr (.inl (false,())))
 else
 some (.inl (x1,((wrap .i64 (x2+(1:Int))),())))
 else
 if(decide ((57:Int)<((UInt8.toNat (List.getD x1 (Int.toNat x2) 0):Nat):Int)))=true then
 if(!(decide (((UInt8.toNat (List.getD x1 (Int.toNat x2) 0):Nat):Int)=(32:Int))))=true then
 some (.inr (.inl (false,())))
 else
 some (.inl (x1,((wrap .i64 (x2+(1:Int))),())))
 else
 some (.inl (x1,((wrap .i64 (x2+(1:Int))),())))
 else
 some (.inl (x1,((wrap .i64 (x2+(1:Int))),())))
 else
 none
 else
 none
 else
 some (.inr (.inr (x1,())))
abbrev wf(x0:(List UInt8)):Prop:=fW [(.val .str .f)] (x0,())
noncomputable def aR(x0:(List UInt8)):Option kZ:=
 if(iF.pre2 (x0,((0:Int),())))=true then
  match(iF.fn2 (x0,((0:Int),()))) with
  |.inl y=>
   some ((),y)
  |.inr y=>
   some ((),((decide (((length y.1:Nat):Int)<=(30:Int))),()))
 else
  none
theorem qO(x1:List UInt8)(x2:Int)(hp:pre2 (x1,(x2,()))=true):Rounds pre2 kY fn2 (x1,(x2,())) (cW x1 x2):=by
 unfold cW
 by_cases hlt:x2<(x1.length:Int)
 . obtain⟨h1,h2,h3⟩:=aJS hp hlt
   simp only[hlt,h1,decide_true,if_true,Za,Bool.not_eq_true',Zv]
   generalize hc:(x1.getD x2.toNat 0)=c at *
   have hk:aCe c=true\/aCe c=false:=by cases aCe c<;>simp
   unfold aCe at hk h2 h3
   simp only[Bool.or_eq_true,Zb,Za,Bool.or_eq_false_iff,Bool.and_eq_false_iff,Zv] at hk h2 h3
   repeat' split
   all_goals first|(exact h2 (by omega))|(exact h3 (by omega))
 . simp only[hlt,decide_false,Zj,if_false]
   exact aLN hp hlt
theorem eq(x0:List UInt8)(hw:wf x0):aR x0=some ((),(iF x0,())):=by
 have h1:x0.length<=maxLen:=hw.1
 unfold aR iF gI
 rw[if_pos (show pre2 _=true from aNj h1)]
 simp only[fn2,aFt,Int.toNat_zero,List.drop_zero]
 by_cases h:x0.all aCe=true
 . rw[if_pos h,h]
   by_cases hl:x0.length<=30
   . simp[hl];omega
   . simp[hl];omega
 . rw[if_neg h];simp[h]
end iF
namespace jH
def pre2:=aAg
def fn2:=aFt
def kY:=aKW
noncomputable def cW(x1:(List UInt8))(x2:Int):Option (((List UInt8)×(Int×Unit))⊕((Bool×Unit)⊕aCu)):=
 if(decide (x2<((length x1:Nat):Int)))=true then
 if(decide ((0:Int)<=x2))=true then
 if(decide (x2<((length x1:Nat):Int)))=true then
 if(decide ((97:Int)<=((UInt8.toNat (List.getD x1 (Int.toNat x2) 0):Nat):Int)))=true then
 if(decide (((UInt8.toNat (List.getD x1 (Int.toNat x2) 0):Nat):Int)<=(122:Int)))=true then
 if(!true)=true then
 some (.inr (.inl (false,())))
 else
 some (.inl (x1,((wrap .i64 (x2+(1:Int))),())))
 else
 if(decide ((48:Int)<=((UInt8.toNat (List.getD x1 (Int.toNat x2) 0):Nat):Int)))=true then
 if(decide (((UInt8.toNat (List.getD x1 (Int.toNat x2) 0):Nat):Int)<=(57:Int)))=true then
 if(!true)=true then
 some (.inr (.inl (false,())))
 else
 some (.inl (x1,((wrap .i64 (x2+(1:Int))),())))
 else
 if(!(decide (((UInt8.toNat (List.getD x1 (Int.toNat x2) 0):Nat):Int)=(32:Int))))=true then
 some (.inr (.inl (false,())))
 else
 some (.inl (x1,((wrap .i64 (x2+(1:Int))),())))
 else
 if(!(decide (((UInt8.toNat (List.getD x1 (Int.toNat x2) 0):Nat):Int)=(32:Int))))=true then
 some (.inr (.inl (false,())))
 else
 some (.inl (x1,((wrap .i64 (x2+(1:Int))),())))
 else
 if(decide ((48:Int)<=((UInt8.toNat (List.getD x1 (Int.toNat x2) 0):Nat):Int)))=true then
 if(decide (((UInt8.toNat (List.getD x1 (Int.toNat x2) 0):Nat):Int)<=(57:Int)))=true then
 if(!true)=true then
 some (.inr (.inl (false,())))
 else
 some (.inl (x1,((wrap .i64 (x2+(1:Int))),())))
 else
 if(!(decide (((UInt8.toNat (List.getD x1 (Int.toNat x2) 0):Nat):Int)=(32:Int))))=true then
 some (.inr (.inl (false,())))
 else
 some (.inl (x1,((wrap .i64 (x2+(1:Int))),())))
 else
 if(!(decide (((UInt8.toNat (List.getD x1 (Int.toNat x2) 0):Nat):Int)=(32:Int))))=true then
 some (.inr (.inl (false,())))
 else
 some (.inl (x1,((wrap .i64 (x2+(1:Int))),())))
 else
 none
 else
 none
 else
 some (.inr (.inr (x1,())))
abbrev wf(x0:(List UInt8)):Prop:=fW [(.val .str .f)] (x0,())
noncomputable def aR(x0:(List UInt8)):Option kZ:=
 if(jH.pre2 (x0,((0:Int),())))=true then
  match(jH.fn2 (x0,((0:Int),()))) with
  |.inl y=>
   some ((),y)
  |.inr y=>
   some ((),((decide (((length y.1:Nat):Int)<=(30:Int))),()))
 else
  none
theorem qO(x1:List UInt8)(x2:Int)(hp:pre2 (x1,(x2,()))=true):Rounds pre2 kY fn2 (x1,(x2,())) (cW x1 x2):=by
 unfold cW
 by_cases hlt:x2<(x1.length:Int)
 . obtain⟨h1,h2,h3⟩:=aJS hp hlt
   simp only[hlt,h1,decide_true,if_true,Za,Bool.not_eq_true',Zv,Bool.not_true,Zj,if_false]
   generalize hc:(x1.getD x2.toNat 0)=c at *
   have hk:aCe c=true\/aCe c=false:=by cases aCe c<;>simp
   unfold aCe at hk h2 h3
   simp only[Bool.or_eq_true,Zb,Za,Bool.or_eq_false_iff,Bool.and_eq_false_iff,Zv] at hk h2 h3
   repeat' split
   all_goals first|(exact h2 (by omega))|(exact h3 (by omega))
 . simp only[hlt,decide_false,Zj,if_false]
   exact aLN hp hlt
theorem eq(x0:List UInt8)(hw:wf x0):aR x0=some ((),(jH x0,())):=by
 have h1:x0.length<=maxLen:=hw.1
 unfold aR jH gI
 rw[if_pos (show pre2 _=true from aNj h1)]
 simp only[fn2,aFt,Int.toNat_zero,List.drop_zero]
 by_cases h:x0.all aCe=true
 . rw[if_pos h,h]
   by_cases hl:x0.length<=30
   . simp[hl];omega
   . simp[hl];omega
 . rw[if_neg h];simp[h]
end jH
def pE(c:Cmd):Bool:=
 if c.1=-1 then decide (c.1=-1)&&(decide (c.2.1=0)&&(decide (c.2.2.1=0)&&(decide (c.2.2.2.1=0)&&(decide (c.2.2.2.2.1=0)&&(decide (c.2.2.2.2.2.1=0)&&(c.2.2.2.2.2.2.1==[]&&c.2.2.2.2.2.2.2.1==[]))))))
 else aB c.1 0 3&&(aB c.2.1 1 100000&&(aB c.2.2.1 1 10&&(aB c.2.2.2.1 0 100000&&(aB c.2.2.2.2.1 0 100000&&(aB c.2.2.2.2.2.1 0 100000&&(gI c.2.2.2.2.2.2.1&&gI c.2.2.2.2.2.2.2.1))))))
abbrev kQ:=pE
abbrev nQ:=pE
namespace kQ
abbrev wf(x0:Cmd):Prop:=fW [(.val aKt .f)] (x0,())
noncomputable def aR(x0:Cmd):Option kZ:=
 if(decide (x0.1=(-1:Int)))=true then
 some ((),(((decide (x0.1=(-1:Int)))&&((decide (x0.2.1=(0:Int)))&&((decide (x0.2.2.1=(0:Int)))&&((decide (x0.2.2.2.1=(0:Int)))&&((decide (x0.2.2.2.2.1=(0:Int)))&&((decide (x0.2.2.2.2.2.1=(0:Int)))&&((x0.2.2.2.2.2.2.1==([]:List UInt8))&&(x0.2.2.2.2.2.2.2.1==([]:List UInt8))))))))),()))
 else
 if(aB x0.1 (0:Int) (3:Int))=true then
 if(aB x0.2.1 (1:Int) (100000:Int))=true then
 if(aB x0.2.2.1 (1:Int) (10:Int))=true then
 if(aB x0.2.2.2.1 (0:Int) (100000:Int))=true then
 if(aB x0.2.2.2.2.1 (0:Int) (100000:Int))=true then
 if(aB x0.2.2.2.2.2.1 (0:Int) (100000:Int))=true then
 if(gI x0.2.2.2.2.2.2.1)=true then
 some ((),((gI x0.2.2.2.2.2.2.2.1),()))
 else
 some ((),(false,()))
 else
 some ((),(false,()))
 else
 some ((),(false,()))
 else
 some ((),(false,()))
 else
 some ((),(false,()))
 else
 some ((),(false,()))
 else
 some ((),(false,()))
theorem eq(x0:Cmd)(_:wf x0):aR x0=some ((),(kQ x0,())):=by
 unfold aR kQ pE
 simp only[Za]
 split
 . rfl
 . cases aB x0.1 0 3<;>simp only[Zj,if_false,if_true,Bool.false_and,Bool.true_and]
   cases aB x0.2.1 1 100000<;>simp only[Zj,if_false,if_true,Bool.false_and,Bool.true_and]
   cases aB x0.2.2.1 1 10<;>simp only[Zj,if_false,if_true,Bool.false_and,Bool.true_and]
   cases aB x0.2.2.2.1 0 100000<;>simp only[Zj,if_false,if_true,Bool.false_and,Bool.true_and]
   cases aB x0.2.2.2.2.1 0 100000<;>simp only[Zj,if_false,if_true,Bool.false_and,Bool.true_and]
   cases aB x0.2.2.2.2.2.1 0 100000<;>simp only[Zj,if_false,if_true,Bool.false_and,Bool.true_and]
   cases gI x0.2.2.2.2.2.2.1<;>simp only[Zj,if_false,if_true,Bool.false_and,Bool.true_and]
end kQ
namespace nQ
abbrev wf(x0:Cmd):Prop:=fW [(.val aKt .f)] (x0,())
noncomputable def aR(x0:Cmd):Option kZ:=
 if(decide (x0.1=(-1:Int)))=true then
 some ((),(((decide (x0.1=(-1:Int)))&&((decide (x0.2.1=(0:Int)))&&((decide (x0.2.2.1=(0:Int)))&&((decide (x0.2.2.2.1=(0:Int)))&&((decide (x0.2.2.2.2.1=(0:Int)))&&((decide (x0.2.2.2.2.2.1=(0:Int)))&&((x0.2.2.2.2.2.2.1==([]:List UInt8))&&(x0.2.2.2.2.2.2.2.1==([]:List UInt8))))))))),()))
 else
 if(aB x0.1 (0:Int) (3:Int))=true then
 if(aB x0.2.1 (1:Int) (100000:Int))=true then
 if(aB x0.2.2.1 (1:Int) (10:Int))=true then
 if(aB x0.2.2.2.1 (0:Int) (100000:Int))=true then
 if(aB x0.2.2.2.2.1 (0:Int) (100000:Int))=true then
 if(aB x0.2.2.2.2.2.1 (0:Int) (100000:Int))=true then
 if(gI x0.2.2.2.2.2.2.1)=true then
 some ((),((gI x0.2.2.2.2.2.2.2.1),()))
 else
 some ((),(false,()))
 else
 some ((),(false,()))
 else
 some ((),(false,()))
 else
 some ((),(false,()))
 else
 some ((),(false,()))
 else
 some ((),(false,()))
 else
 some ((),(false,()))
theorem eq(x0:Cmd)(_:wf x0):aR x0=some ((),(nQ x0,())):=by
 unfold aR nQ pE
 simp only[Za]
 split
 . rfl
 . cases aB x0.1 0 3<;>simp only[Zj,if_false,if_true,Bool.false_and,Bool.true_and]
   cases aB x0.2.1 1 100000<;>simp only[Zj,if_false,if_true,Bool.false_and,Bool.true_and]
   cases aB x0.2.2.1 1 10<;>simp only[Zj,if_false,if_true,Bool.false_and,Bool.true_and]
   cases aB x0.2.2.2.1 0 100000<;>simp only[Zj,if_false,if_true,Bool.false_and,Bool.true_and]
   cases aB x0.2.2.2.2.1 0 100000<;>simp only[Zj,if_false,if_true,Bool.false_and,Bool.true_and]
   cases aB x0.2.2.2.2.2.1 0 100000<;>simp only[Zj,if_false,if_true,Bool.false_and,Bool.true_and]
   cases gI x0.2.2.2.2.2.2.1<;>simp only[Zj,if_false,if_true,Bool.false_and,Bool.true_and]
end nQ
abbrev E0:aL:=wX
def aA6(l:iT):Int×Int:=if l.2.2.1.length=0 then(l.1,l.2.1) else(wrap .i64 (l.1+(l.2.2.1.length:Int)),(l.2.2.1.getD (l.2.2.1.length-1) E0).1)
abbrev mO:=aA6
abbrev mQ:=aA6
namespace mO
abbrev wf(x0:iT):Prop:=fW [(.val aAi .f)] (x0,())
noncomputable def aR(x0:iT):Option (Unit×eN):=
 if(decide ((0:Int)<((length x0.2.2.1:Nat):Int)))=true then
 if(decide ((0:Int)<=(wrap .i64 (((length x0.2.2.1:Nat):Int)-(1:Int)))))=true then
 if(decide ((wrap .i64 (((length x0.2.2.1:Nat):Int)-(1:Int)))<((length x0.2.2.1:Nat):Int)))=true then
 some ((),((wrap .i64 (x0.1+((length x0.2.2.1:Nat):Int))),((List.getD x0.2.2.1 (Int.toNat (wrap .i64 (((length x0.2.2.1:Nat):Int)-(1:Int)))) wX).1,())))
 else
 none
 else
 none
 else
 some ((),(x0.1,(x0.2.1,())))
theorem eq(x0:iT)(hw:wf x0):aR x0=some ((),((mO x0).1,((mO x0).2,()))):=by
 have h1:x0.2.2.1.length<=maxLen:=hw.1.2.2.1.1
 have hM:=lH
 unfold aR mO aA6
 by_cases h:x0.2.2.1.length=0
 . simp[h]
 . rw[iV (n:=(x0.2.2.1.length:Int)-1) (by omega) (by omega),if_pos (by rw[Za];omega),if_pos (by rw[Za];omega),if_pos (by rw[Za];omega),if_neg h]
   rw[show((x0.2.2.1.length:Int)-1).toNat=x0.2.2.1.length-1 by omega]
end mO
namespace mQ
abbrev wf(x0:iT):Prop:=fW [(.val aAi .f)] (x0,())
noncomputable def aR(x0:iT):Option (Unit×eN):=
 if(decide (((length x0.2.2.1:Nat):Int)=(0:Int)))=true then
 some ((),(x0.1,(x0.2.1,())))
 else
 if(decide ((0:Int)<=(wrap .i64 (((length x0.2.2.1:Nat):Int)-(1:Int)))))=true then
 if(decide ((wrap .i64 (((length x0.2.2.1:Nat):Int)-(1:Int)))<((length x0.2.2.1:Nat):Int)))=true then
 some ((),((wrap .i64 (x0.1+((length x0.2.2.1:Nat):Int))),((List.getD x0.2.2.1 (Int.toNat (wrap .i64 (((length x0.2.2.1:Nat):Int)-(1:Int)))) wX).1,())))
 else
 none
 else
 none
theorem eq(x0:iT)(hw:wf x0):aR x0=some ((),((mQ x0).1,((mQ x0).2,()))):=by
 have h1:x0.2.2.1.length<=maxLen:=hw.1.2.2.1.1
 have hM:=lH
 unfold aR mQ aA6
 by_cases h:x0.2.2.1.length=0
 . simp[h]
 . rw[iV (n:=(x0.2.2.1.length:Int)-1) (by omega) (by omega),if_neg (by rw[Za];omega),if_pos (by rw[Za];omega),if_pos (by rw[Za];omega),if_neg h]
   rw[show((x0.2.2.1.length:Int)-1).toNat=x0.2.2.1.length-1 by omega]
end mQ
def aAr:List aL->Int->Bool
 |[],_=>true
 |e::r,t=>aB e.1 t 300&&(pE e.2.1&&aAr r e.1)
def rJ(l:iT):Bool:=aB l.1 0 300&&(aB l.2.1 0 300&&(decide ((l.2.2.1.length:Int)<=300-l.1)&&aAr l.2.2.1 l.2.1))
abbrev mA:=rJ
abbrev lZ:=rJ
theorem aK6{xs:List aL}{t:Int}{i:Int}(h0:0<=i)(hlt:i<(xs.length:Int))(hl:xs.length<=maxLen):
 aAr (xs.drop i.toNat) t=(aB (xs.getD i.toNat E0).1 t 300&&(pE (xs.getD i.toNat E0).2.1&&aAr (xs.drop (wrap .i64 (i+1)).toNat) (xs.getD i.toNat E0).1))/\0<=wrap .i64 (i+1)/\(wrap .i64 (i+1)).toNat<=xs.length/\
  xs.length-(wrap .i64 (i+1)).toNat<xs.length-i.toNat:=by
 have hM:=lH
 have hn:i.toNat<xs.length:=by omega
 rw[iV (by omega) (by omega),eV hn,Zn hn,show(i+1).toNat=i.toNat+1 by omega]
 refine⟨rfl,by omega,by omega,by omega⟩
namespace mA
abbrev S:=Int×(List aL×(Int×(Int×Unit)))
def pre5:S->Bool:=fun s=>decide (s.2.1.length<=maxLen)&&(decide (s.2.2.1=(s.2.1.length:Int))&&(decide (0<=s.2.2.2.1)&&decide (s.2.2.2.1.toNat<=s.2.1.length)))
def fn5:S->(Bool×Unit)⊕Unit:=fun s=>if aAr (s.2.1.drop s.2.2.2.1.toNat) s.1=true then .inr () else .inl (false,())
def mu5:S->Nat:=fun s=>s.2.1.length-s.2.2.2.1.toNat
noncomputable def tX(x1:Int)(x2:(List aL))(x3:Int)(x4:Int):Option ((Int×((List aL)×eN))⊕((Bool×Unit)⊕Unit)):=
 if(decide (x4<x3))=true then
 if(decide ((0:Int)<=x4))=true then
 if(decide (x4<((length x2:Nat):Int)))=true then
 if(!(aB (List.getD x2 (Int.toNat x4) wX).1 x1 (300:Int)))=true then
 some (.inr (.inl (false,())))
 else
 if(!(pE (List.getD x2 (Int.toNat x4) wX).2.1))=true then
 some (.inr (.inl (false,())))
 else
 some (.inl ((List.getD x2 (Int.toNat x4) wX).1,(x2,(x3,((wrap .i64 (x4+(1:Int))),())))))
 else
 none
 else
 none
 else
 some (.inr (.inr ()))
abbrev wf(x0:iT):Prop:=fW [(.val aAi .f)] (x0,())
noncomputable def aR(x0:iT):Option kZ:=
 if(!(aB x0.1 (0:Int) (300:Int)))=true then
  some ((),(false,()))
 else
  if(!(aB x0.2.1 (0:Int) (300:Int)))=true then
   some ((),(false,()))
  else
   if(decide ((wrap .i64 ((300:Int)-x0.1))<((length x0.2.2.1:Nat):Int)))=true then
    some ((),(false,()))
   else
    if(mA.pre5 (x0.2.1,(x0.2.2.1,(((length x0.2.2.1:Nat):Int),((0:Int),())))))=true then
     match(mA.fn5 (x0.2.1,(x0.2.2.1,(((length x0.2.2.1:Nat):Int),((0:Int),()))))) with
     |.inl y=>
      some ((),y)
     |.inr y=>
      some ((),(true,()))
    else
     none
theorem ok5(x1:Int)(x2:List aL)(x3 x4:Int)(hp:pre5 (x1,(x2,(x3,(x4,()))))=true):Rounds pre5 mu5 fn5 (x1,(x2,(x3,(x4,())))) (tX x1 x2 x3 x4):=by
 simp only[pre5,Zb,Za] at hp
 obtain⟨h1,rfl,h3,h4⟩:=hp
 unfold tX
 by_cases hlt:x4<(x2.length:Int)
 . obtain⟨g1,g2,g3,g4⟩:=aK6 (t:=x1) h3 hlt h1
   simp only[hlt,h3,decide_true,if_true]
   cases hw:aB (x2.getD x4.toNat E0).1 x1 300 with
   |false=>simp only[Rounds,fn5,g1,hw,Bool.false_and,Bool.not_false,Zj,if_true,if_false]
   |true=>
    cases hc:pE (x2.getD x4.toNat E0).2.1 with
    |false=>simp only[Rounds,fn5,g1,hw,hc,Bool.false_and,Bool.true_and,Bool.not_false,Bool.not_true,Zj,if_true,if_false]
    |true=>
     simp only[Bool.not_true,Zj,if_false,Rounds]
     refine⟨?_,g4,?_⟩
     . simp only[pre5,Zb,Za]
       exact⟨h1,trivial,g2,g3⟩
     . simp only[fn5,g1,hw,hc,Bool.true_and]
 . simp only[hlt,decide_false,Zj,if_false,Rounds,fn5]
   rw[Zt (by omega)]
   rfl
theorem eq(x0:iT)(hw:wf x0):aR x0=some ((),(mA x0,())):=by
 have h1:x0.2.2.1.length<=maxLen:=hw.1.2.2.1.1
 have hpre:pre5 (x0.2.1,(x0.2.2.1,(((x0.2.2.1.length:Nat):Int),((0:Int),()))))=true:=by simp[pre5,h1]
 unfold aR mA rJ
 cases ha:aB x0.1 0 300 with
 |false=>simp
 |true=>
  cases hb:aB x0.2.1 0 300 with
  |false=>simp
  |true=>
   have ha':=ha
   simp only[aB,Zb,Za] at ha'
   rw[iV (by omega) (by omega)]
   by_cases hl:(x0.2.2.1.length:Int)<=300-x0.1
   . have hn:¬(300-x0.1<(x0.2.2.1.length:Int)):=by omega
     simp only[Bool.not_true,Zj,if_false,hn,decide_false,hpre,if_true,fn5,Int.toNat_zero,List.drop_zero,hl,decide_true,Bool.true_and]
     cases aAr x0.2.2.1 x0.2.1<;>rfl
   . have hn:300-x0.1<(x0.2.2.1.length:Int):=by omega
     simp[hl,hn]
end mA
namespace lZ
abbrev S:=Int×(Int×(iT×Unit))
def pre5:S->Bool:=fun s=>decide (s.2.2.1.2.2.1.length<=maxLen)&&(decide (0<=s.2.1)&&decide (s.2.1.toNat<=s.2.2.1.2.2.1.length))
def fn5:S->(Bool×Unit)⊕Unit:=fun s=>if aAr (s.2.2.1.2.2.1.drop s.2.1.toNat) s.1=true then .inr () else .inl (false,())
def mu5:S->Nat:=fun s=>s.2.2.1.2.2.1.length-s.2.1.toNat
noncomputable def tX(x1:Int)(x2:Int)(x3:iT):Option ((Int×(Int×(iT×Unit)))⊕((Bool×Unit)⊕Unit)):=
 if(decide (x2<((length x3.2.2.1:Nat):Int)))=true then
 if(decide ((0:Int)<=x2))=true then
 if(decide (x2<((length x3.2.2.1:Nat):Int)))=true then
 if(!(aB (List.getD x3.2.2.1 (Int.toNat x2) wX).1 x1 (300:Int)))=true then
 some (.inr (.inl (false,())))
 else
 if(decide ((0:Int)<=x2))=true then
 if(decide (x2<((length x3.2.2.1:Nat):Int)))=true then
 if(!(pE (List.getD x3.2.2.1 (Int.toNat x2) wX).2.1))=true then
 some (.inr (.inl (false,())))
 else
 if(decide ((0:Int)<=x2))=true then
 if(decide (x2<((length x3.2.2.1:Nat):Int)))=true then
 some (.inl ((List.getD x3.2.2.1 (Int.toNat x2) wX).1,((wrap .i64 (x2+(1:Int))),(x3,()))))
 else
 none
 else
 none
 else
 none
 else
 none
 else
 none
 else
 none
 else
 some (.inr (.inr ()))
abbrev wf(x0:iT):Prop:=fW [(.val aAi .f)] (x0,())
noncomputable def aR(x0:iT):Option kZ:=
 if(!(aB x0.1 (0:Int) (300:Int)))=true then
  some ((),(false,()))
 else
  if(!(aB x0.2.1 (0:Int) (300:Int)))=true then
   some ((),(false,()))
  else
   if(decide ((wrap .i64 ((300:Int)-x0.1))<((length x0.2.2.1:Nat):Int)))=true then
    some ((),(false,()))
   else
    if(lZ.pre5 (x0.2.1,((0:Int),(x0,()))))=true then
     match(lZ.fn5 (x0.2.1,((0:Int),(x0,())))) with
     |.inl y=>
      some ((),y)
     |.inr y=>
      some ((),(true,()))
    else
     none
theorem ok5(x1 x2:Int)(x3:iT)(hp:pre5 (x1,(x2,(x3,())))=true):Rounds pre5 mu5 fn5 (x1,(x2,(x3,()))) (tX x1 x2 x3):=by
 simp only[pre5,Zb,Za] at hp
 obtain⟨h1,h3,h4⟩:=hp
 unfold tX
 by_cases hlt:x2<(x3.2.2.1.length:Int)
 . obtain⟨g1,g2,g3,g4⟩:=aK6 (t:=x1) h3 hlt h1
   simp only[hlt,h3,decide_true,if_true]
   cases hw:aB (x3.2.2.1.getD x2.toNat E0).1 x1 300 with
   |false=>simp only[Rounds,fn5,g1,hw,Bool.false_and,Bool.not_false,Zj,if_true,if_false]
   |true=>
    cases hc:pE (x3.2.2.1.getD x2.toNat E0).2.1 with
    |false=>simp only[Rounds,fn5,g1,hw,hc,Bool.false_and,Bool.true_and,Bool.not_false,Bool.not_true,Zj,if_true,if_false]
    |true=>
     simp only[Bool.not_true,Zj,if_false,Rounds]
     refine⟨?_,g4,?_⟩
     . simp only[pre5,Zb,Za]
       exact⟨h1,g2,g3⟩
     . simp only[fn5,g1,hw,hc,Bool.true_and]
 . simp only[hlt,decide_false,Zj,if_false,Rounds,fn5]
   rw[Zt (by omega)]
   rfl
theorem eq(x0:iT)(hw:wf x0):aR x0=some ((),(lZ x0,())):=by
 have h1:x0.2.2.1.length<=maxLen:=hw.1.2.2.1.1
 have hpre:pre5 (x0.2.1,((0:Int),(x0,())))=true:=by simp[pre5,h1]
 unfold aR lZ rJ
 cases ha:aB x0.1 0 300 with
 |false=>simp
 |true=>
  cases hb:aB x0.2.1 0 300 with
  |false=>simp
  |true=>
   have ha':=ha
   simp only[aB,Zb,Za] at ha'
   rw[iV (by omega) (by omega)]
   by_cases hl:(x0.2.2.1.length:Int)<=300-x0.1
   . have hn:¬(300-x0.1<(x0.2.2.1.length:Int)):=by omega
     simp only[Bool.not_true,Zj,if_false,hn,decide_false,hpre,if_true,fn5,Int.toNat_zero,List.drop_zero,hl,decide_true,Bool.true_and]
     cases aAr x0.2.2.1 x0.2.1<;>rfl
   . have hn:300-x0.1<(x0.2.2.1.length:Int):=by omega
     simp[hl,hn]
end lZ
theorem dropTake_len{α:Type}(lo hi:Nat)(xs:List α):(bE lo hi xs).length<=xs.length:=by
 simp only[bE,Zr,Zs];omega
def aJs(k:Nat)(out:List UInt8):List UInt8:=
 if k=0 then out else aJs (k/10) (List.append (kX (wrap .u8 (wrap .i64 (48+Int.tmod (k:Int) 10))::([]:List Int))) out)
termination_by k
decreasing_by omega
theorem aLy(k:Nat)(out:List UInt8):(aJs k out).length<=k+out.length:=by
 induction k using Nat.strongRecOn generalizing out with
 |ind k ih=>
  rw[aJs]
  split
  . omega
  . rename_i h
    refine Nat.le_trans (ih (k/10) (by omega) _) ?_
    simp only[List.append_eq,Zf,kX,List.map_cons,List.map_nil,Zg,Zh]
    omega
def aE(k:Int):List UInt8:=if k<=0 then[109,48] else 109::aJs k.toNat []
namespace aE
def pre(k:Int):Bool:=decide (k<=2147483648)
abbrev S:=Int×(List UInt8×Unit)
def pre4:S->Bool:=fun s=>decide (0<=s.1)&&decide (s.1.toNat+s.2.1.length<=4294967295)
def fn4:S->List UInt8×Unit:=fun s=>(aJs s.1.toNat s.2.1,())
def qD:S->Nat:=fun s=>s.1.toNat
noncomputable def hJ(x1:Int)(x2:(List UInt8)):Option ((Int×aCu)⊕aCu):=
 if(decide ((0:Int)<x1))=true then
 if(!(decide ((10:Int)=(0:Int))))=true then
 if(decide (length (kX ((wrap .u8 (wrap .i64 ((48:Int)+(Int.tmod x1 (10:Int)))))::([]:List Int)))+length x2<=lT))=true then
 if(!(decide ((10:Int)=(0:Int))))=true then
 some (.inl ((wrap .i64 (Int.tdiv x1 (10:Int))),((List.append (kX ((wrap .u8 (wrap .i64 ((48:Int)+(Int.tmod x1 (10:Int)))))::([]:List Int))) x2),())))
 else
 none
 else
 none
 else
 none
 else
 some (.inr (x2,()))
abbrev wf(x0:Int):Prop:=fW [(.val (.int .i64) .f)] (x0,())
noncomputable def aR(x0:Int):Option (Unit×aCu):=
 if(decide (x0<=(0:Int)))=true then
 some ((),(((109:UInt8)::((48:UInt8)::([]:List UInt8))),()))
 else
 if(aE.pre4 (x0,(([]:List UInt8),())))=true then
 if(decide (length ((109:UInt8)::([]:List UInt8))+length (aE.fn4 (x0,(([]:List UInt8),()))).1<=lT))=true then
 some ((),((List.append ((109:UInt8)::([]:List UInt8)) (aE.fn4 (x0,(([]:List UInt8),()))).1),()))
 else
 none
 else
 none
theorem zE(x1:Int)(x2:List UInt8)(hp:pre4 (x1,(x2,()))=true):Rounds pre4 qD fn4 (x1,(x2,())) (hJ x1 x2):=by
 simp only[pre4,Zb,Za] at hp
 obtain⟨h1,h2⟩:=hp
 unfold hJ
 by_cases h:0<x1
 . have hd:Int.tdiv x1 10=x1/10:=Int.tdiv_eq_ediv_of_nonneg h1
   have hn:((x1.toNat:Nat):Int)=x1:=Int.toNat_of_nonneg h1
   rw[if_pos (by simp[h]),if_pos (by decide),if_pos (by simp only[kX,List.map_cons,List.map_nil,Zg,Zh,Za,lT];omega),if_pos (by decide),hd,iV (by omega) (by omega)]
   simp only[Rounds]
   refine⟨?_,by simp only[qD];omega,?_⟩
   . simp only[pre4,Zb,Za,List.append_eq,Zf,kX,List.map_cons,List.map_nil,Zg,Zh]
     omega
   . simp only[fn4]
     conv=>rhs;rw[aJs,if_neg (by omega),hn]
     rw[show(x1/10).toNat=x1.toNat/10 by omega]
 . rw[if_neg (by simp[h])]
   simp only[Rounds,fn4]
   rw[show x1.toNat=0 by omega,aJs,if_pos rfl]
theorem eq(x0:Int)(_:wf x0)(hp:pre x0=true):aR x0=some ((),(aE x0,())):=by
 simp only[pre,Za] at hp
 unfold aR aE
 by_cases h:x0<=0
 . simp[h]
 . have hl:=aLy x0.toNat []
   simp only[Zh,Nat.add_zero] at hl
   have hl':(fn4 (x0,(([]:List UInt8),()))).1.length<=x0.toNat:=hl
   rw[if_neg (by simp[h]),if_pos (show pre4 _=true by simp only[pre4,Zb,Za,Zh];omega),if_pos (by rw[Za];simp only[Zg,Zh,lT];omega),if_neg h]
   rfl
end aE
def mE(k:Int):aL:=(k,((k+1,(k+1+1,(k+1+1+1,(k+1+1+1+1,(k+1+1+1+1+1,(k+1+1+1+1+1+1,(aE (k+1+1+1+1+1+1+1),(aE (k+1+1+1+1+1+1+1+1),())))))))),()))
def qH:Nat->Int->List aL
 |0,_=>[]
 |n+1,k=>mE k::qH n (k+1+1+1+1+1+1+1+1+1)
def cB(xs:List aL)(k:Int):List aL×Int:=(qH xs.length k,k+9*xs.length)
namespace cB
def pre(xs:List aL)(k:Int):Bool:=dI xs&&(decide (0<=k)&&decide (k<=1073741824))
abbrev S:=Int×(Int×(List aL×Unit))
def pre2:S->Bool:=fun s=>decide (s.2.2.1.length<=16777216)&&(decide (0<=s.2.1)&&(decide (s.2.1.toNat<=s.2.2.1.length)&&(decide (0<=s.1)&&decide (s.1+9*(s.2.2.1.length-s.2.1)<=2147483600))))
def fn2:S->Int×(List aL×Unit):=fun s=>(s.1+9*(s.2.2.1.length-s.2.1),(s.2.2.1.take s.2.1.toNat++qH (s.2.2.1.length-s.2.1.toNat) s.1,()))
def kY:S->Nat:=fun s=>s.2.2.1.length-s.2.1.toNat
noncomputable def cW(x1:Int)(x2:Int)(x3:(List aL)):Option (iT⊕(Int×((List aL)×Unit))):=
 if(decide (x2<((length x3:Nat):Int)))=true then
 if(decide ((0:Int)<=x2))=true then
 if(decide (x2<((length x3:Nat):Int)))=true then
 if(decide ((0:Int)<=x2))=true then
 if(decide (x2<((length (List.modify x3 (Int.toNat x2) (fun z=>(x1,z.2))):Nat):Int)))=true then
 if(decide ((0:Int)<=x2))=true then
 if(decide (x2<((length (List.modify (List.modify x3 (Int.toNat x2) (fun z=>(x1,z.2))) (Int.toNat x2) (fun z=>(z.1,(((wrap .i64 (x1+(1:Int))),z.2.1.2),z.2.2)))):Nat):Int)))=true then
 if(decide ((0:Int)<=x2))=true then
 if(decide (x2<((length (List.modify (List.modify (List.modify x3 (Int.toNat x2) (fun z=>(x1,z.2))) (Int.toNat x2) (fun z=>(z.1,(((wrap .i64 (x1+(1:Int))),z.2.1.2),z.2.2)))) (Int.toNat x2) (fun z=>(z.1,((z.2.1.1,((wrap .i64 ((wrap .i64 (x1+(1:Int)))+(1:Int))),z.2.1.2.2)),z.2.2)))):Nat):Int)))=true then
 if(decide ((0:Int)<=x2))=true then
 if(decide (x2<((length (List.modify (List.modify (List.modify (List.modify x3 (Int.toNat x2) (fun z=>(x1,z.2))) (Int.toNat x2) (fun z=>(z.1,(((wrap .i64 (x1+(1:Int))),z.2.1.2),z.2.2)))) (Int.toNat x2) (fun z=>(z.1,((z.2.1.1,((wrap .i64 ((wrap .i64 (x1+(1:Int)))+(1:Int))),z.2.1.2.2)),z.2.2)))) (Int.toNat x2) (fun z=>(z.1,((z.2.1.1,(z.2.1.2.1,((wrap .i64 ((wrap .i64 ((wrap .i64 (x1+(1:Int)))+(1:Int)))+(1:Int))),z.2.1.2.2.2))),z.2.2)))):Nat):Int)))=true then
 if(decide ((0:Int)<=x2))=true then
 if(decide (x2<((length (List.modify (List.modify (List.modify (List.modify (List.modify x3 (Int.toNat x2) (fun z=>(x1,z.2))) (Int.toNat x2) (fun z=>(z.1,(((wrap .i64 (x1+(1:Int))),z.2.1.2),z.2.2)))) (Int.toNat x2) (fun z=>(z.1,((z.2.1.1,((wrap .i64 ((wrap .i64 (x1+(1:Int)))+(1:Int))),z.2.1.2.2)),z.2.2)))) (Int.toNat x2) (fun z=>(z.1,((z.2.1.1,(z.2.1.2.1,((wrap .i64 ((wrap .i64 ((wrap .i64 (x1+(1:Int)))+(1:Int)))+(1:Int))),z.2.1.2.2.2))),z.2.2)))) (Int.toNat x2) (fun z=>(z.1,((z.2.1.1,(z.2.1.2.1,(z.2.1.2.2.1,((wrap .i64 ((wrap .i64 ((wrap .i64 ((wrap .i64 (x1+(1:Int)))+(1:Int)))+(1:Int)))+(1:Int))),z.2.1.2.2.2.2)))),z.2.2)))):Nat):Int)))=true then
 if(decide ((0:Int)<=x2))=true then
 if(decide (x2<((length (List.modify (List.modify (List.modify (List.modify (List.modify (List.modify x3 (Int.toNat x2) (fun z=>(x1,z.2))) (Int.toNat x2) (fun z=>(z.1,(((wrap .i64 (x1+(1:Int))),z.2.1.2),z.2.2)))) (Int.toNat x2) (fun z=>(z.1,((z.2.1.1,((wrap .i64 ((wrap .i64 (x1+(1:Int)))+(1:Int))),z.2.1.2.2)),z.2.2)))) (Int.toNat x2) (fun z=>(z.1,((z.2.1.1,(z.2.1.2.1,((wrap .i64 ((wrap .i64 ((wrap .i64 (x1+(1:Int)))+(1:Int)))+(1:Int))),z.2.1.2.2.2))),z.2.2)))) (Int.toNat x2) (fun z=>(z.1,((z.2.1.1,(z.2.1.2.1,(z.2.1.2.2.1,((wrap .i64 ((wrap .i64 ((wrap .i64 ((wrap .i64 (x1+(1:Int)))+(1:Int)))+(1:Int)))+(1:Int))),z.2.1.2.2.2.2)))),z.2.2)))) (Int.toNat x2) (fun z=>(z.1,((z.2.1.1,(z.2.1.2.1,(z.2.1.2.2.1,(z.2.1.2.2.2.1,((wrap .i64 ((wrap .i64 ((wrap .i64 ((wrap .i64 ((wrap .i64 (x1+(1:Int)))+(1:Int)))+(1:Int)))+(1:Int)))+(1:Int))),z.2.1.2.2.2.2.2))))),z.2.2)))):Nat):Int)))=true then
 if(aE.pre (wrap .i64 ((wrap .i64 ((wrap .i64 ((wrap .i64 ((wrap .i64 ((wrap .i64 ((wrap .i64 (x1+(1:Int)))+(1:Int)))+(1:Int)))+(1:Int)))+(1:Int)))+(1:Int)))+(1:Int))))=true then
 if(decide ((0:Int)<=x2))=true then
 if(decide (x2<((length (List.modify (List.modify (List.modify (List.modify (List.modify (List.modify (List.modify x3 (Int.toNat x2) (fun z=>(x1,z.2))) (Int.toNat x2) (fun z=>(z.1,(((wrap .i64 (x1+(1:Int))),z.2.1.2),z.2.2)))) (Int.toNat x2) (fun z=>(z.1,((z.2.1.1,((wrap .i64 ((wrap .i64 (x1+(1:Int)))+(1:Int))),z.2.1.2.2)),z.2.2)))) (Int.toNat x2) (fun z=>(z.1,((z.2.1.1,(z.2.1.2.1,((wrap .i64 ((wrap .i64 ((wrap .i64 (x1+(1:Int)))+(1:Int)))+(1:Int))),z.2.1.2.2.2))),z.2.2)))) (Int.toNat x2) (fun z=>(z.1,((z.2.1.1,(z.2.1.2.1,(z.2.1.2.2.1,((wrap .i64 ((wrap .i64 ((wrap .i64 ((wrap .i64 (x1+(1:Int)))+(1:Int)))+(1:Int)))+(1:Int))),z.2.1.2.2.2.2)))),z.2.2)))) (Int.toNat x2) (fun z=>(z.1,((z.2.1.1,(z.2.1.2.1,(z.2.1.2.2.1,(z.2.1.2.2.2.1,((wrap .i64 ((wrap .i64 ((wrap .i64 ((wrap .i64 ((wrap .i64 (x1+(1:Int)))+(1:Int)))+(1:Int)))+(1:Int)))+(1:Int))),z.2.1.2.2.2.2.2))))),z.2.2)))) (Int.toNat x2) (fun z=>(z.1,((z.2.1.1,(z.2.1.2.1,(z.2.1.2.2.1,(z.2.1.2.2.2.1,(z.2.1.2.2.2.2.1,((wrap .i64 ((wrap .i64 ((wrap .i64 ((wrap .i64 ((wrap .i64 ((wrap .i64 (x1+(1:Int)))+(1:Int)))+(1:Int)))+(1:Int)))+(1:Int)))+(1:Int))),z.2.1.2.2.2.2.2.2)))))),z.2.2)))):Nat):Int)))=true then
 if(aE.pre (wrap .i64 ((wrap .i64 ((wrap .i64 ((wrap .i64 ((wrap .i64 ((wrap .i64 ((wrap .i64 ((wrap .i64 (x1+(1:Int)))+(1:Int)))+(1:Int)))+(1:Int)))+(1:Int)))+(1:Int)))+(1:Int)))+(1:Int))))=true then
 if(decide ((0:Int)<=x2))=true then
 if(decide (x2<((length (List.modify (List.modify (List.modify (List.modify (List.modify (List.modify (List.modify (List.modify x3 (Int.toNat x2) (fun z=>(x1,z.2))) (Int.toNat x2) (fun z=>(z.1,(((wrap .i64 (x1+(1:Int))),z.2.1.2),z.2.2)))) (Int.toNat x2) (fun z=>(z.1,((z.2.1.1,((wrap .i64 ((wrap .i64 (x1+(1:Int)))+(1:Int))),z.2.1.2.2)),z.2.2)))) (Int.toNat x2) (fun z=>(z.1,((z.2.1.1,(z.2.1.2.1,((wrap .i64 ((wrap .i64 ((wrap .i64 (x1+(1:Int)))+(1:Int)))+(1:Int))),z.2.1.2.2.2))),z.2.2)))) (Int.toNat x2) (fun z=>(z.1,((z.2.1.1,(z.2.1.2.1,(z.2.1.2.2.1,((wrap .i64 ((wrap .i64 ((wrap .i64 ((wrap .i64 (x1+(1:Int)))+(1:Int)))+(1:Int)))+(1:Int))),z.2.1.2.2.2.2)))),z.2.2)))) (Int.toNat x2) (fun z=>(z.1,((z.2.1.1,(z.2.1.2.1,(z.2.1.2.2.1,(z.2.1.2.2.2.1,((wrap .i64 ((wrap .i64 ((wrap .i64 ((wrap .i64 ((wrap .i64 (x1+(1:Int)))+(1:Int)))+(1:Int)))+(1:Int)))+(1:Int))),z.2.1.2.2.2.2.2))))),z.2.2)))) (Int.toNat x2) (fun z=>(z.1,((z.2.1.1,(z.2.1.2.1,(z.2.1.2.2.1,(z.2.1.2.2.2.1,(z.2.1.2.2.2.2.1,((wrap .i64 ((wrap .i64 ((wrap .i64 ((wrap .i64 ((wrap .i64 ((wrap .i64 (x1+(1:Int)))+(1:Int)))+(1:Int)))+(1:Int)))+(1:Int)))+(1:Int))),z.2.1.2.2.2.2.2.2)))))),z.2.2)))) (Int.toNat x2) (fun z=>(z.1,((z.2.1.1,(z.2.1.2.1,(z.2.1.2.2.1,(z.2.1.2.2.2.1,(z.2.1.2.2.2.2.1,(z.2.1.2.2.2.2.2.1,((aE (wrap .i64 ((wrap .i64 ((wrap .i64 ((wrap .i64 ((wrap .i64 ((wrap .i64 ((wrap .i64 (x1+(1:Int)))+(1:Int)))+(1:Int)))+(1:Int)))+(1:Int)))+(1:Int)))+(1:Int)))),z.2.1.2.2.2.2.2.2.2))))))),z.2.2)))):Nat):Int)))=true then
 some (.inl ((wrap .i64 ((wrap .i64 ((wrap .i64 ((wrap .i64 ((wrap .i64 ((wrap .i64 ((wrap .i64 ((wrap .i64 ((wrap .i64 (x1+(1:Int)))+(1:Int)))+(1:Int)))+(1:Int)))+(1:Int)))+(1:Int)))+(1:Int)))+(1:Int)))+(1:Int))),((wrap .i64 (x2+(1:Int))),((List.modify (List.modify (List.modify (List.modify (List.modify (List.modify (List.modify (List.modify (List.modify x3 (Int.toNat x2) (fun z=>(x1,z.2))) (Int.toNat x2) (fun z=>(z.1,(((wrap .i64 (x1+(1:Int))),z.2.1.2),z.2.2)))) (Int.toNat x2) (fun z=>(z.1,((z.2.1.1,((wrap .i64 ((wrap .i64 (x1+(1:Int)))+(1:Int))),z.2.1.2.2)),z.2.2)))) (Int.toNat x2) (fun z=>(z.1,((z.2.1.1,(z.2.1.2.1,((wrap .i64 ((wrap .i64 ((wrap .i64 (x1+(1:Int)))+(1:Int)))+(1:Int))),z.2.1.2.2.2))),z.2.2)))) (Int.toNat x2) (fun z=>(z.1,((z.2.1.1,(z.2.1.2.1,(z.2.1.2.2.1,((wrap .i64 ((wrap .i64 ((wrap .i64 ((wrap .i64 (x1+(1:Int)))+(1:Int)))+(1:Int)))+(1:Int))),z.2.1.2.2.2.2)))),z.2.2)))) (Int.toNat x2) (fun z=>(z.1,((z.2.1.1,(z.2.1.2.1,(z.2.1.2.2.1,(z.2.1.2.2.2.1,((wrap .i64 ((wrap .i64 ((wrap .i64 ((wrap .i64 ((wrap .i64 (x1+(1:Int)))+(1:Int)))+(1:Int)))+(1:Int)))+(1:Int))),z.2.1.2.2.2.2.2))))),z.2.2)))) (Int.toNat x2) (fun z=>(z.1,((z.2.1.1,(z.2.1.2.1,(z.2.1.2.2.1,(z.2.1.2.2.2.1,(z.2.1.2.2.2.2.1,((wrap .i64 ((wrap .i64 ((wrap .i64 ((wrap .i64 ((wrap .i64 ((wrap .i64 (x1+(1:Int)))+(1:Int)))+(1:Int)))+(1:Int)))+(1:Int)))+(1:Int))),z.2.1.2.2.2.2.2.2)))))),z.2.2)))) (Int.toNat x2) (fun z=>(z.1,((z.2.1.1,(z.2.1.2.1,(z.2.1.2.2.1,(z.2.1.2.2.2.1,(z.2.1.2.2.2.2.1,(z.2.1.2.2.2.2.2.1,((aE (wrap .i64 ((wrap .i64 ((wrap .i64 ((wrap .i64 ((wrap .i64 ((wrap .i64 ((wrap .i64 (x1+(1:Int)))+(1:Int)))+(1:Int)))+(1:Int)))+(1:Int)))+(1:Int)))+(1:Int)))),z.2.1.2.2.2.2.2.2.2))))))),z.2.2)))) (Int.toNat x2) (fun z=>(z.1,((z.2.1.1,(z.2.1.2.1,(z.2.1.2.2.1,(z.2.1.2.2.2.1,(z.2.1.2.2.2.2.1,(z.2.1.2.2.2.2.2.1,(z.2.1.2.2.2.2.2.2.1,((aE (wrap .i64 ((wrap .i64 ((wrap .i64 ((wrap .i64 ((wrap .i64 ((wrap .i64 ((wrap .i64 ((wrap .i64 (x1+(1:Int)))+(1:Int)))+(1:Int)))+(1:Int)))+(1:Int)))+(1:Int)))+(1:Int)))+(1:Int)))),z.2.1.2.2.2.2.2.2.2.2)))))))),z.2.2)))),()))))
 else
 none
 else
 none
 else
 none
 else
 none
 else
 none
 else
 none
 else
 none
 else
 none
 else
 none
 else
 none
 else
 none
 else
 none
 else
 none
 else
 none
 else
 none
 else
 none
 else
 none
 else
 none
 else
 none
 else
 none
 else
 some (.inr (x1,(x3,())))
abbrev wf(x0:(List aL))(x1:Int):Prop:=fW [(.mut (.sl 0 zk2)),(.val (.int .i64) .f)] (x0,(x1,()))
noncomputable def aR(x0:(List aL))(x1:Int):Option (((List aL)×Unit)×(Int×Unit)):=
 if(cB.pre2 (x1,((0:Int),(x0,()))))=true then
 some ((cB.fn2 (x1,((0:Int),(x0,())))).2,((cB.fn2 (x1,((0:Int),(x0,())))).1,()))
 else
 none
theorem qO(x1 x2:Int)(x3:List aL)(hp:pre2 (x1,(x2,(x3,())))=true):Rounds pre2 kY fn2 (x1,(x2,(x3,()))) (cW x1 x2 x3):=by
 simp only[pre2,Zb,Za] at hp
 obtain⟨h1,h2,h3,h4,h5⟩:=hp
 unfold cW
 by_cases hlt:x2<(x3.length:Int)
 . have hn:x2.toNat<x3.length:=by omega
   have w1:wrap .i64 (x1+1)=x1+1:=iV (by omega) (by omega)
   have w2:wrap .i64 (x1+1+1)=x1+1+1:=iV (by omega) (by omega)
   have w3:wrap .i64 (x1+1+1+1)=x1+1+1+1:=iV (by omega) (by omega)
   have w4:wrap .i64 (x1+1+1+1+1)=x1+1+1+1+1:=iV (by omega) (by omega)
   have w5:wrap .i64 (x1+1+1+1+1+1)=x1+1+1+1+1+1:=iV (by omega) (by omega)
   have w6:wrap .i64 (x1+1+1+1+1+1+1)=x1+1+1+1+1+1+1:=iV (by omega) (by omega)
   have w7:wrap .i64 (x1+1+1+1+1+1+1+1)=x1+1+1+1+1+1+1+1:=iV (by omega) (by omega)
   have w8:wrap .i64 (x1+1+1+1+1+1+1+1+1)=x1+1+1+1+1+1+1+1+1:=iV (by omega) (by omega)
   have w9:wrap .i64 (x1+1+1+1+1+1+1+1+1+1)=x1+1+1+1+1+1+1+1+1+1:=iV (by omega) (by omega)
   have p7:aE.pre (x1+1+1+1+1+1+1+1)=true:=by simp only[aE.pre,Za];omega
   have p8:aE.pre (x1+1+1+1+1+1+1+1+1)=true:=by simp only[aE.pre,Za];omega
   simp only[List.length_modify,hlt,h2,decide_true,if_true,w1,w2,w3,w4,w5,w6,w7,w8,w9,p7,p8,iV (n:=x2+1) (by omega) (by omega)]
   simp only[List.modify_modify_eq]
   have hm:=aBZ x3 x2.toNat (mE x1)
   refine(?_:Rounds pre2 kY fn2 (x1,(x2,(x3,()))) (some (.inl (x1+1+1+1+1+1+1+1+1+1,(x2+1,(x3.modify x2.toNat (fun _=>mE x1),()))))))
   rw[hm]
   simp only[Rounds]
   refine⟨?_,by simp only[kY,List.length_set];omega,?_⟩
   . simp only[pre2,Zb,Za,List.length_set]
     omega
   . simp only[fn2,List.length_set,show(x2+1).toNat=x2.toNat+1 by omega]
     rw[show x3.length-x2.toNat=(x3.length-(x2.toNat+1))+1 by omega]
     simp only[qH]
     rw[List.take_add_one,List.take_set_of_le (by omega),List.getElem?_set_self (by omega)]
     refine Prod.ext (by show _=_;omega) (Prod.ext ?_ rfl)
     simp
 . simp only[hlt,decide_false,Zj,if_false,Rounds,fn2]
   rw[show x3.length-x2.toNat=0 by omega,show x2.toNat=x3.length by omega]
   refine Prod.ext (by show _=_;omega) (Prod.ext ?_ rfl)
   simp[qH]
theorem eq(x0:List aL)(x1:Int)(_:wf x0 x1)(hp:pre x0 x1=true):aR x0 x1=some (((cB x0 x1).1,()),((cB x0 x1).2,())):=by
 simp only[pre,Zb,Za,cC] at hp
 unfold aR cB
 rw[if_pos (show pre2 _=true by simp only[pre2,Zb,Za];simp;omega)]
 simp[fn2]
end cB
def gW(x:iT)(k:Int):iT×Int:=((x.1,(x.2.1,(qH x.2.2.1.length k,()))),k+9*x.2.2.1.length)
namespace gW
def pre(x:iT)(k:Int):Bool:=cB.pre x.2.2.1 k
abbrev wf(x0:iT)(x1:Int):Prop:=fW [(.mut aAi),(.val (.int .i64) .f)] (x0,(x1,()))
noncomputable def aR(x0:iT)(x1:Int):Option ((iT×Unit)×(Int×Unit)):=
 if(cB.pre x0.2.2.1 x1)=true then
 some (((x0.1,(x0.2.1,((cB x0.2.2.1 x1).1,x0.2.2.2))),()),((cB x0.2.2.1 x1).2,()))
 else
 none
theorem eq(x0:iT)(x1:Int)(_:wf x0 x1)(hp:pre x0 x1=true):aR x0 x1=some (((gW x0 x1).1,()),((gW x0 x1).2,())):=by
 unfold aR
 rw[if_pos (show cB.pre _ _=true from hp)]
 rfl
end gW
open Classical in
noncomputable def cX(xs:List aL)(k:Int):Int:=if xs=qH xs.length k then k+9*xs.length else -1
namespace cX
def pre(xs:List aL)(k:Int):Bool:=cB.pre xs k
abbrev S:=List aL×(Int×(Int×Unit))
def pre2:S->Bool:=fun s=>decide (s.1.length<=16777216)&&(decide (0<=s.2.2.1)&&(decide (s.2.2.1.toNat<=s.1.length)&&(decide (0<=s.2.1)&&decide (s.2.1+9*(s.1.length-s.2.2.1)<=2147483600))))
open Classical in
noncomputable def fn2:S->(Int×Unit)⊕(Int×Unit):=fun s=>if s.1.drop s.2.2.1.toNat=qH (s.1.length-s.2.2.1.toNat) s.2.1 then .inr (s.2.1+9*(s.1.length-s.2.2.1),()) else .inl (-1,())
def kY:S->Nat:=fun s=>s.1.length-s.2.2.1.toNat
noncomputable def cW(x1:(List aL))(x2:Int)(x3:Int):Option (((List aL)×eN)⊕((Int×Unit)⊕(Int×Unit))):=
 if(decide (x3<((length x1:Nat):Int)))=true then
 if(decide ((0:Int)<=x3))=true then
 if(decide (x3<((length x1:Nat):Int)))=true then
 if(!(decide ((List.getD x1 (Int.toNat x3) wX).1=x2)))=true then
 some (.inr (.inl ((-1:Int),())))
 else
 if(decide ((0:Int)<=x3))=true then
 if(decide (x3<((length x1:Nat):Int)))=true then
 if(!(decide ((List.getD x1 (Int.toNat x3) wX).2.1.1=(wrap .i64 (x2+(1:Int))))))=true then
 some (.inr (.inl ((-1:Int),())))
 else
 if(decide ((0:Int)<=x3))=true then
 if(decide (x3<((length x1:Nat):Int)))=true then
 if(!(decide ((List.getD x1 (Int.toNat x3) wX).2.1.2.1=(wrap .i64 ((wrap .i64 (x2+(1:Int)))+(1:Int))))))=true then
 some (.inr (.inl ((-1:Int),())))
 else
 if(decide ((0:Int)<=x3))=true then
 if(decide (x3<((length x1:Nat):Int)))=true then
 if(!(decide ((List.getD x1 (Int.toNat x3) wX).2.1.2.2.1=(wrap .i64 ((wrap .i64 ((wrap .i64 (x2+(1:Int)))+(1:Int)))+(1:Int))))))=true then
 some (.inr (.inl ((-1:Int),())))
 else
 if(decide ((0:Int)<=x3))=true then
 if(decide (x3<((length x1:Nat):Int)))=true then
 if(!(decide ((List.getD x1 (Int.toNat x3) wX).2.1.2.2.2.1=(wrap .i64 ((wrap .i64 ((wrap .i64 ((wrap .i64 (x2+(1:Int)))+(1:Int)))+(1:Int)))+(1:Int))))))=true then
 some (.inr (.inl ((-1:Int),())))
 else
 if(decide ((0:Int)<=x3))=true then
 if(decide (x3<((length x1:Nat):Int)))=true then
 if(!(decide ((List.getD x1 (Int.toNat x3) wX).2.1.2.2.2.2.1=(wrap .i64 ((wrap .i64 ((wrap .i64 ((wrap .i64 ((wrap .i64 (x2+(1:Int)))+(1:Int)))+(1:Int)))+(1:Int)))+(1:Int))))))=true then
 some (.inr (.inl ((-1:Int),())))
 else
 if(decide ((0:Int)<=x3))=true then
 if(decide (x3<((length x1:Nat):Int)))=true then
 if(!(decide ((List.getD x1 (Int.toNat x3) wX).2.1.2.2.2.2.2.1=(wrap .i64 ((wrap .i64 ((wrap .i64 ((wrap .i64 ((wrap .i64 ((wrap .i64 (x2+(1:Int)))+(1:Int)))+(1:Int)))+(1:Int)))+(1:Int)))+(1:Int))))))=true then
 some (.inr (.inl ((-1:Int),())))
 else
 if(decide ((0:Int)<=x3))=true then
 if(decide (x3<((length x1:Nat):Int)))=true then
 if(aE.pre (wrap .i64 ((wrap .i64 ((wrap .i64 ((wrap .i64 ((wrap .i64 ((wrap .i64 ((wrap .i64 (x2+(1:Int)))+(1:Int)))+(1:Int)))+(1:Int)))+(1:Int)))+(1:Int)))+(1:Int))))=true then
 if(!((List.getD x1 (Int.toNat x3) wX).2.1.2.2.2.2.2.2.1==(aE (wrap .i64 ((wrap .i64 ((wrap .i64 ((wrap .i64 ((wrap .i64 ((wrap .i64 ((wrap .i64 (x2+(1:Int)))+(1:Int)))+(1:Int)))+(1:Int)))+(1:Int)))+(1:Int)))+(1:Int))))))=true then
 some (.inr (.inl ((-1:Int),())))
 else
 if(decide ((0:Int)<=x3))=true then
 if(decide (x3<((length x1:Nat):Int)))=true then
 if(aE.pre (wrap .i64 ((wrap .i64 ((wrap .i64 ((wrap .i64 ((wrap .i64 ((wrap .i64 ((wrap .i64 ((wrap .i64 (x2+(1:Int)))+(1:Int)))+(1:Int)))+(1:Int)))+(1:Int)))+(1:Int)))+(1:Int)))+(1:Int))))=true then
 if(!((List.getD x1 (Int.toNat x3) wX).2.1.2.2.2.2.2.2.2.1==(aE (wrap .i64 ((wrap .i64 ((wrap .i64 ((wrap .i64 ((wrap .i64 ((wrap .i64 ((wrap .i64 ((wrap .i64 (x2+(1:Int)))+(1:Int)))+(1:Int)))+(1:Int)))+(1:Int)))+(1:Int)))+(1:Int)))+(1:Int))))))=true then
 some (.inr (.inl ((-1:Int),())))
 else
 some (.inl (x1,((wrap .i64 ((wrap .i64 ((wrap .i64 ((wrap .i64 ((wrap .i64 ((wrap .i64 ((wrap .i64 ((wrap .i64 ((wrap .i64 (x2+(1:Int)))+(1:Int)))+(1:Int)))+(1:Int)))+(1:Int)))+(1:Int)))+(1:Int)))+(1:Int)))+(1:Int))),((wrap .i64 (x3+(1:Int))),()))))
 else
 none
 else
 none
 else
 none
 else
 none
 else
 none
 else
 none
 else
 none
 else
 none
 else
 none
 else
 none
 else
 none
 else
 none
 else
 none
 else
 none
 else
 none
 else
 none
 else
 none
 else
 none
 else
 none
 else
 none
 else
 some (.inr (.inr (x2,())))
abbrev wf(x0:(List aL))(x1:Int):Prop:=fW [(.val (.sl 0 zk2) .f),(.val (.int .i64) .f)] (x0,(x1,()))
noncomputable def aR(x0:(List aL))(x1:Int):Option xT:=
 if(cX.pre2 (x0,(x1,((0:Int),()))))=true then
  match(cX.fn2 (x0,(x1,((0:Int),())))) with
  |.inl y=>
   some ((),y)
  |.inr y=>
   some ((),y)
 else
  none
theorem qO(x1:List aL)(x2 x3:Int)(hp:pre2 (x1,(x2,(x3,())))=true):Rounds pre2 kY fn2 (x1,(x2,(x3,()))) (cW x1 x2 x3):=by
 simp only[pre2,Zb,Za] at hp
 obtain⟨h1,h2,h3,h4,h5⟩:=hp
 unfold cW
 by_cases hlt:x3<(x1.length:Int)
 . have hn:x3.toNat<x1.length:=by omega
   have e1:=Zn hn
   have e2:x1.length-x3.toNat=(x1.length-(x3.toNat+1))+1:=by omega
   have w1:wrap .i64 (x2+1)=x2+1:=iV (by omega) (by omega)
   have w2:wrap .i64 (x2+1+1)=x2+1+1:=iV (by omega) (by omega)
   have w3:wrap .i64 (x2+1+1+1)=x2+1+1+1:=iV (by omega) (by omega)
   have w4:wrap .i64 (x2+1+1+1+1)=x2+1+1+1+1:=iV (by omega) (by omega)
   have w5:wrap .i64 (x2+1+1+1+1+1)=x2+1+1+1+1+1:=iV (by omega) (by omega)
   have w6:wrap .i64 (x2+1+1+1+1+1+1)=x2+1+1+1+1+1+1:=iV (by omega) (by omega)
   have w7:wrap .i64 (x2+1+1+1+1+1+1+1)=x2+1+1+1+1+1+1+1:=iV (by omega) (by omega)
   have w8:wrap .i64 (x2+1+1+1+1+1+1+1+1)=x2+1+1+1+1+1+1+1+1:=iV (by omega) (by omega)
   have w9:wrap .i64 (x2+1+1+1+1+1+1+1+1+1)=x2+1+1+1+1+1+1+1+1+1:=iV (by omega) (by omega)
   have p7:aE.pre (x2+1+1+1+1+1+1+1)=true:=by simp only[aE.pre,Za];omega
   have p8:aE.pre (x2+1+1+1+1+1+1+1+1)=true:=by simp only[aE.pre,Za];omega
   simp only[hlt,h2,decide_true,if_true,w1,w2,w3,w4,w5,w6,w7,w8,w9,p7,p8,iV (n:=x3+1) (by omega) (by omega),eV hn]
   generalize x1[x3.toNat]=e at e1
   have good:e=mE x2->Rounds pre2 kY fn2 (x1,(x2,(x3,()))) (some (.inl (x1,(x2+1+1+1+1+1+1+1+1+1,(x3+1,()))))):=by
    intro he
    simp only[Rounds]
    refine⟨?_,by simp only[kY];omega,?_⟩
    . simp only[pre2,Zb,Za]
      omega
    . have hi:x1.drop (x3+1).toNat=qH (x1.length-(x3+1).toNat) (x2+1+1+1+1+1+1+1+1+1)↔x1.drop x3.toNat=qH (x1.length-x3.toNat) x2:=by
       rw[show(x3+1).toNat=x3.toNat+1 by omega,e1,e2,qH,he,List.cons.injEq];simp
      simp only[fn2]
      by_cases hc:x1.drop x3.toNat=qH (x1.length-x3.toNat) x2
      . rw[if_pos hc,if_pos (hi.2 hc)]
        congr 2<;>omega
      . rw[if_neg hc,if_neg (fun h=>hc (hi.1 h))]
   have xX:¬e=mE x2->Rounds pre2 kY fn2 (x1,(x2,(x3,()))) (some (.inr (.inl (-1,())))):=by
    intro he
    simp only[Rounds,fn2]
    rw[if_neg]
    rw[e1,e2,qH,List.cons.injEq]
    exact fun h=>he h.1
   obtain⟨t,⟨a1,a2,a3,a4,a5,a6,a7,a8,_⟩,_⟩:=e
   simp only[Bool.not_eq_true',Zv,beq_eq_false_iff_ne,ne_eq]
   by_cases c0:t=x2
   case neg=>rw[if_pos c0];exact xX fun h=>c0 (congrArg (fun e:aL=>e.1) h)
   rw[if_neg (by simp[c0])]
   by_cases c1:a1=x2+1
   case neg=>rw[if_pos c1];exact xX fun h=>c1 (congrArg (fun e:aL=>e.2.1.1) h)
   rw[if_neg (by simp[c1])]
   by_cases c2:a2=x2+1+1
   case neg=>rw[if_pos c2];exact xX fun h=>c2 (congrArg (fun e:aL=>e.2.1.2.1) h)
   rw[if_neg (by simp[c2])]
   by_cases c3:a3=x2+1+1+1
   case neg=>rw[if_pos c3];exact xX fun h=>c3 (congrArg (fun e:aL=>e.2.1.2.2.1) h)
   rw[if_neg (by simp[c3])]
   by_cases c4:a4=x2+1+1+1+1
   case neg=>rw[if_pos c4];exact xX fun h=>c4 (congrArg (fun e:aL=>e.2.1.2.2.2.1) h)
   rw[if_neg (by simp[c4])]
   by_cases c5:a5=x2+1+1+1+1+1
   case neg=>rw[if_pos c5];exact xX fun h=>c5 (congrArg (fun e:aL=>e.2.1.2.2.2.2.1) h)
   rw[if_neg (by simp[c5])]
   by_cases c6:a6=x2+1+1+1+1+1+1
   case neg=>rw[if_pos c6];exact xX fun h=>c6 (congrArg (fun e:aL=>e.2.1.2.2.2.2.2.1) h)
   rw[if_neg (by simp[c6])]
   by_cases c7:a7=aE (x2+1+1+1+1+1+1+1)
   case neg=>rw[if_pos c7];exact xX fun h=>c7 (congrArg (fun e:aL=>e.2.1.2.2.2.2.2.2.1) h)
   rw[if_neg (by simp[c7])]
   by_cases c8:a8=aE (x2+1+1+1+1+1+1+1+1)
   case neg=>rw[if_pos c8];exact xX fun h=>c8 (congrArg (fun e:aL=>e.2.1.2.2.2.2.2.2.2.1) h)
   rw[if_neg (by simp[c8])]
   exact good (by subst c0;subst c1;subst c2;subst c3;subst c4;subst c5;subst c6;subst c7;subst c8;rfl)
 . simp only[hlt,decide_false,Zj,if_false,Rounds,fn2]
   rw[Zt (by omega),show x1.length-x3.toNat=0 by omega,qH,if_pos rfl]
   congr 2<;>omega
theorem eq(x0:List aL)(x1:Int)(_:wf x0 x1)(hp:pre x0 x1=true):aR x0 x1=some ((),(cX x0 x1,())):=by
 simp only[pre,cB.pre,Zb,Za,cC] at hp
 unfold aR cX
 rw[if_pos (show pre2 _=true by simp only[pre2,Zb,Za];simp;omega)]
 by_cases he:x0=qH x0.length x1
 . have hf:fn2 (x0,(x1,((0:Int),())))=.inr (x1+9*((x0.length:Int)-0),()):=if_pos he
   rw[hf,if_pos he]
   simp
 . have hf:fn2 (x0,(x1,((0:Int),())))=.inl (-1,()):=if_neg he
   rw[hf,if_neg he]
end cX
noncomputable def eY(x:iT)(k:Int):Int:=let r:=cX x.2.2.1 k;if r<0 then -1 else r
namespace eY
def pre(x:iT)(k:Int):Bool:=cB.pre x.2.2.1 k
abbrev wf(x0:iT)(x1:Int):Prop:=fW [(.val aAi .f),(.val (.int .i64) .f)] (x0,(x1,()))
noncomputable def aR(x0:iT)(x1:Int):Option xT:=
 if(cX.pre x0.2.2.1 x1)=true then
 if(decide ((cX x0.2.2.1 x1)<(0:Int)))=true then
 some ((),((-1:Int),()))
 else
 some ((),((cX x0.2.2.1 x1),()))
 else
 none
theorem eq(x0:iT)(x1:Int)(_:wf x0 x1)(hp:pre x0 x1=true):aR x0 x1=some ((),(eY x0 x1,())):=by
 unfold aR eY
 rw[if_pos (show cX.pre _ _=true from hp)]
 simp only[Za]
 split<;>rfl
end eY
def cG(l:iT)(i:Int):Int:=if i<=l.1\/300<i\/l.1<0\/(l.2.2.1.length:Int)<=i-l.1-1 then -1 else i-l.1-1
namespace cG
abbrev wf(x0:iT)(x1:Int):Prop:=fW [(.val aAi .f),(.val (.int .i64) .f)] (x0,(x1,()))
noncomputable def aR(x0:iT)(x1:Int):Option xT:=
 if(decide (x1<=x0.1))=true then
 some ((),((-1:Int),()))
 else
 if(decide ((300:Int)<x1))=true then
 some ((),((-1:Int),()))
 else
 if(decide (x0.1<(0:Int)))=true then
 some ((),((-1:Int),()))
 else
 if(decide (((length x0.2.2.1:Nat):Int)<=(wrap .i64 ((wrap .i64 (x1-x0.1))-(1:Int)))))=true then
 some ((),((-1:Int),()))
 else
 some ((),((wrap .i64 ((wrap .i64 (x1-x0.1))-(1:Int))),()))
theorem eq(x0:iT)(x1:Int)(_:wf x0 x1):aR x0 x1=some ((),(cG x0 x1,())):=by
 unfold aR cG
 by_cases h1:x1<=x0.1
 . simp[h1]
 by_cases h2:300<x1
 . simp[h1,h2]
 by_cases h3:x0.1<0
 . simp[h1,h2,h3]
 rw[iV (n:=x1-x0.1) (by omega) (by omega),iV (n:=x1-x0.1-1) (by omega) (by omega)]
 by_cases h4:(x0.2.2.1.length:Int)<=x1-x0.1-1<;>simp[h1,h2,h3,h4]
end cG
def aBH(l:iT)(i:Int):iT:=if cG l i<0 then l else(i,((l.2.2.1.getD (cG l i).toNat E0).1,(l.2.2.1.drop ((cG l i).toNat+1),())))
abbrev lS:=aBH
abbrev lO:=aBH
theorem aCm{α:Type}(n:Nat)(xs:List α):bE n xs.length xs=xs.drop n:=by
 simp only[bE]
 rw[List.take_of_length_le (by simp)]
section
variable {α:Type}
def vI(g:α->Bool):List α->Int->Int
 |[],_=>-1
 |a::r,i=>if g a=true then i else vI g r (i+1)
theorem aCq(g:α->Bool):(xs:List α)->(i:Int)->0<=i->-1<=vI g xs i/\(0<=vI g xs i↔xs.any g=true)
 |[],i,h=>by simp[vI]
 |a::r,i,h=>by
  simp only[vI,List.any_cons]
  by_cases ha:g a=true
  . simp[ha];omega
  . have:=aCq g r (i+1) (by omega)
    simp only[Bool.not_eq_true] at ha
    simp only[ha,Zj,if_false,Bool.false_or]
    exact this
abbrev IxS(α:Type):=List α×((α->Bool)×((α->Bool)×(Int×(Int×Unit))))
def tK:IxS α->Bool:=fun s=>decide (s.1.length<=maxLen)&&(decide (s.2.2.2.1=(s.1.length:Int))&&(decide (0<=s.2.2.2.2.1)&&(decide (s.2.2.2.2.1.toNat<=s.1.length)&&s.1.all s.2.1)))
def aBN:IxS α->(Int×Unit)⊕Unit:=fun s=>if vI s.2.2.1 (s.1.drop s.2.2.2.2.1.toNat) s.2.2.2.2.1<0 then .inr () else .inl (vI s.2.2.1 (s.1.drop s.2.2.2.2.1.toNat) s.2.2.2.2.1,())
def aGg:IxS α->Nat:=fun s=>s.1.length-s.2.2.2.2.1.toNat
theorem aBU{x1:List α}{x2 x3:α->Bool}{x4 x5:Int}(hp:tK (x1,(x2,(x3,(x4,(x5,())))))=true)(hlt:x5<x4)(d:α):
 0<=x5/\x5<(x1.length:Int)/\x2 (x1.getD x5.toNat d)=true/\(x3 (x1.getD x5.toNat d)=true->Rounds tK aGg aBN (x1,(x2,(x3,(x4,(x5,()))))) (some (.inr (.inl (x5,())))))/\
  (¬x3 (x1.getD x5.toNat d)=true->Rounds tK aGg aBN (x1,(x2,(x3,(x4,(x5,()))))) (some (.inl (x1,(x2,(x3,(x4,(wrap .i64 (x5+1),())))))))):=by
 simp only[tK,Zb,Za] at hp
 obtain⟨h1,rfl,h3,h4,h5⟩:=hp
 have hM:=lH
 have hn:x5.toNat<x1.length:=by omega
 have e1:=Zn hn
 rw[eV hn]
 refine⟨h3,hlt,Zu.1 h5 _ (List.getElem_mem hn),fun he=>?_,fun he=>?_⟩
 . simp only[Rounds,aBN,e1,vI,he,if_true]
   rw[if_neg (by omega)]
 . simp only[Rounds,iV (n:=x5+1) (by omega) (by omega)]
   refine⟨?_,by simp only[aGg];omega,?_⟩
   . simp only[tK,Zb,Za]
     exact⟨h1,trivial,by omega,by omega,h5⟩
   . simp only[aBN,show(x5+1).toNat=x5.toNat+1 by omega,e1,vI,he,if_false]
     rfl
theorem aDS{x1:List α}{x2 x3:α->Bool}{x4 x5:Int}(hp:tK (x1,(x2,(x3,(x4,(x5,())))))=true)(hlt:¬x5<x4):
 Rounds tK aGg aBN (x1,(x2,(x3,(x4,(x5,()))))) (some (.inr (.inr ()))):=by
 simp only[tK,Zb,Za] at hp
 obtain⟨h1,rfl,h3,h4,h5⟩:=hp
 simp only[Rounds,aBN]
 rw[Zt (by omega)]
 rfl
end
def cH(xs:List aL)(p:(aL->Bool)×(aL->Bool)):Int:=vI p.2 xs 0
namespace cH
def pre(xs:List aL)(p:(aL->Bool)×(aL->Bool)):Bool:=xs.all p.1
def pre2:=tK (α:=aL)
def fn2:=aBN (α:=aL)
def kY:=aGg (α:=aL)
noncomputable def cW(x1:(List aL))(x2:(aL->Bool))(x3:(aL->Bool))(x4:Int)(x5:Int):Option (((List aL)×((aL->Bool)×((aL->Bool)×eN)))⊕((Int×Unit)⊕Unit)):=
 if(decide (x5<x4))=true then
 if(decide ((0:Int)<=x5))=true then
 if(decide (x5<((length x1:Nat):Int)))=true then
 if(x2 (List.getD x1 (Int.toNat x5) wX))=true then
 if(x3 (List.getD x1 (Int.toNat x5) wX))=true then
 some (.inr (.inl (x5,())))
 else
 some (.inl (x1,(x2,(x3,(x4,((wrap .i64 (x5+(1:Int))),()))))))
 else
 none
 else
 none
 else
 none
 else
 some (.inr (.inr ()))
abbrev wf(x0:(List aL))(x1:((aL->Bool)×(aL->Bool))):Prop:=fW [(.val (.sl 0 zk2) .f),(.fn zk2 .bool)] (x0,(x1,()))
noncomputable def aR(x0:(List aL))(x1:((aL->Bool)×(aL->Bool))):Option xT:=
 if(cH.pre2 (x0,(x1.1,(x1.2,(((length x0:Nat):Int),((0:Int),()))))))=true then
  match(cH.fn2 (x0,(x1.1,(x1.2,(((length x0:Nat):Int),((0:Int),())))))) with
  |.inl y=>
   some ((),y)
  |.inr y=>
   some ((),((-1:Int),()))
 else
  none
theorem qO(x1:List aL)(x2 x3:aL->Bool)(x4 x5:Int)(hp:pre2 (x1,(x2,(x3,(x4,(x5,())))))=true):Rounds pre2 kY fn2 (x1,(x2,(x3,(x4,(x5,()))))) (cW x1 x2 x3 x4 x5):=by
 unfold cW
 by_cases hlt:x5<x4
 . obtain⟨h1,h2,h3,h4,h5⟩:=aBU hp hlt E0
   simp only[hlt,h1,h2,h3,decide_true,if_true]
   split
   . rename_i h;exact h4 h
   . rename_i h;exact h5 h
 . simp only[hlt,decide_false,Zj,if_false]
   exact aDS hp hlt
theorem eq(x0:List aL)(x1:(aL->Bool)×(aL->Bool))(hw:wf x0 x1)(hp:pre x0 x1=true):aR x0 x1=some ((),(cH x0 x1,())):=by
 have h1:x0.length<=maxLen:=hw.1.1
 unfold aR
 rw[if_pos (show pre2 _=true by simp only[pre2,tK,Zb,Za];exact⟨h1,trivial,by omega,by simp,hp⟩)]
 have hlo:=(aCq x1.2 x0 0 (by omega)).1
 by_cases h:vI x1.2 x0 0<0
 . have hf:fn2 (x0,(x1.1,(x1.2,(((x0.length:Nat):Int),((0:Int),())))))=.inr ():=if_pos h
   rw[hf]
   show _=some ((),(vI x1.2 x0 0,()))
   rw[show vI x1.2 x0 0=-1 by omega]
 . have hf:fn2 (x0,(x1.1,(x1.2,(((x0.length:Nat):Int),((0:Int),())))))=.inl (vI x1.2 x0 0,()):=if_neg h
   rw[hf];rfl
end cH
def bR(xs:List aL)(p:(aL->Bool)×(aL->Bool)):Bool:=xs.any p.2
namespace bR
def pre(xs:List aL)(p:(aL->Bool)×(aL->Bool)):Bool:=xs.all p.1
abbrev wf(x0:(List aL))(x1:((aL->Bool)×(aL->Bool))):Prop:=fW [(.val (.sl 0 zk2) .f),(.fn zk2 .bool)] (x0,(x1,()))
noncomputable def aR(x0:(List aL))(x1:((aL->Bool)×(aL->Bool))):Option kZ:=
 if(cH.pre x0 x1)=true then
 some ((),((decide ((0:Int)<=(cH x0 x1))),()))
 else
 none
theorem eq(x0:List aL)(x1:(aL->Bool)×(aL->Bool))(_:wf x0 x1)(hp:pre x0 x1=true):aR x0 x1=some ((),(bR x0 x1,())):=by
 unfold aR bR cH
 rw[if_pos (show cH.pre _ _=true from hp)]
 have h:=(aCq x1.2 x0 0 (by omega)).2
 by_cases ha:x0.any x1.2=true
 . rw[ha,Zd (h.2 ha)]
 . have h0:¬0<=vI x1.2 x0 0:=fun hh=>ha (h.1 hh)
   rw[decide_eq_false h0]
   simp only[Bool.not_eq_true] at ha
   rw[ha]
end bR
def eOk(t:Int)(e:aL):Bool:=aB e.1 0 t&&pE e.2.1
def iM(e:aL):Bool:=!eOk 300 e
namespace iM
abbrev wf(x0:aL):Prop:=fW [(.val zk2 .f)] (x0,())
noncomputable def aR(x0:aL):Option kZ:=
 if(!(aB x0.1 (0:Int) (300:Int)))=true then
 some ((),(true,()))
 else
 some ((),((!(pE x0.2.1)),()))
theorem eq(x0:aL)(_:wf x0):aR x0=some ((),(iM x0,())):=by
 unfold aR iM eOk
 cases aB x0.1 0 300<;>simp
end iM
def gU(xs:List aL)(t:Int):Bool:=xs.all (eOk t)&&decide (xs.length<=40)
namespace gU
abbrev S:=List aL×(Int×(Int×Unit))
def pre2:S->Bool:=fun s=>decide (s.1.length<=maxLen)&&(decide (0<=s.2.2.1)&&decide (s.2.2.1.toNat<=s.1.length))
def fn2:S->(Bool×Unit)⊕(List aL×Unit):=fun s=>if(s.1.drop s.2.2.1.toNat).all (eOk s.2.1)=true then .inr (s.1,()) else .inl (false,())
def kY:S->Nat:=fun s=>s.1.length-s.2.2.1.toNat
noncomputable def cW(x1:(List aL))(x2:Int)(x3:Int):Option (((List aL)×eN)⊕((Bool×Unit)⊕((List aL)×Unit))):=
 if(decide (x3<((length x1:Nat):Int)))=true then
 if(decide ((0:Int)<=x3))=true then
 if(decide (x3<((length x1:Nat):Int)))=true then
 if(!(aB (List.getD x1 (Int.toNat x3) wX).1 (0:Int) x2))=true then
 some (.inr (.inl (false,())))
 else
 if(decide ((0:Int)<=x3))=true then
 if(decide (x3<((length x1:Nat):Int)))=true then
 if(!(pE (List.getD x1 (Int.toNat x3) wX).2.1))=true then
 some (.inr (.inl (false,())))
 else
 some (.inl (x1,(x2,((wrap .i64 (x3+(1:Int))),()))))
 else
 none
 else
 none
 else
 none
 else
 none
 else
 some (.inr (.inr (x1,())))
abbrev wf(x0:(List aL))(x1:Int):Prop:=fW [(.val (.sl 0 zk2) .f),(.val (.int .i64) .f)] (x0,(x1,()))
noncomputable def aR(x0:(List aL))(x1:Int):Option kZ:=
 if(gU.pre2 (x0,(x1,((0:Int),()))))=true then
  match(gU.fn2 (x0,(x1,((0:Int),())))) with
  |.inl y=>
   some ((),y)
  |.inr y=>
   some ((),((decide (((length y.1:Nat):Int)<=(40:Int))),()))
 else
  none
theorem qO(x1:List aL)(x2 x3:Int)(hp:pre2 (x1,(x2,(x3,())))=true):Rounds pre2 kY fn2 (x1,(x2,(x3,()))) (cW x1 x2 x3):=by
 simp only[pre2,Zb,Za] at hp
 obtain⟨h1,h2,h3⟩:=hp
 have hM:=lH
 unfold cW
 by_cases hlt:x3<(x1.length:Int)
 . have hn:x3.toNat<x1.length:=by omega
   have e1:=Zn hn
   simp only[hlt,h2,decide_true,if_true,eV hn]
   cases ha:aB (x1[x3.toNat]).1 0 x2 with
   |false=>simp only[Rounds,fn2,e1,List.all_cons,eOk,ha,Bool.false_and,Bool.not_false,Zj,if_true,if_false]
   |true=>
    cases hb:pE (x1[x3.toNat]).2.1 with
    |false=>simp only[Rounds,fn2,e1,List.all_cons,eOk,ha,hb,Bool.true_and,Bool.false_and,Bool.not_false,Bool.not_true,Zj,if_true,if_false]
    |true=>
     simp only[Bool.not_true,Zj,if_false,Rounds,iV (n:=x3+1) (by omega) (by omega)]
     refine⟨?_,by simp only[kY];omega,?_⟩
     . simp only[pre2,Zb,Za]
       exact⟨h1,by omega,by omega⟩
     . simp only[fn2,show(x3+1).toNat=x3.toNat+1 by omega,e1,List.all_cons]
       rw[show eOk x2 x1[x3.toNat]=true by simp[eOk,ha,hb],Bool.true_and]
 . simp only[hlt,decide_false,Zj,if_false,Rounds,fn2]
   rw[Zt (by omega)]
   rfl
theorem eq(x0:List aL)(x1:Int)(hw:wf x0 x1):aR x0 x1=some ((),(gU x0 x1,())):=by
 have h1:x0.length<=maxLen:=hw.1.1
 unfold aR gU
 rw[if_pos (show pre2 _=true by simp[pre2,h1])]
 by_cases ha:x0.all (eOk x1)=true
 . have hf:fn2 (x0,(x1,((0:Int),())))=.inr (x0,()):=if_pos ha
   rw[hf,ha]
   by_cases hl:x0.length<=40
   . simp[hl];omega
   . simp[hl];omega
 . have hf:fn2 (x0,(x1,((0:Int),())))=.inl (false,()):=if_neg ha
   rw[hf]
   simp only[Bool.not_eq_true] at ha
   simp[ha]
end gU
def aGV(r:eE):Bool:=
 if r.1=1 then aB r.2.2.1 (-1) 4&&(decide (r.2.2.2.1=0)&&(decide ((r.2.2.2.2.1.length:Int)=0)&&r.2.2.2.2.2.1==[]))
 else if r.1=2 then decide (r.2.2.1=0)&&r.2.2.2.2.2.1==[]
 else if r.1=3 then decide (r.2.2.1=0)&&decide ((r.2.2.2.2.1.length:Int)=0)
 else false
def jE(r:eE):Bool:=aB r.2.1 0 300&&(aB r.2.2.2.1 0 300&&(gU r.2.2.2.2.1 300&&(decide ((r.2.2.2.2.2.1.length:Int)<=30000)&&aGV r)))
abbrev kS:=jE
abbrev mM:=jE
theorem aH3{α:Type}(f:α->Bool)(xs:List α):xs.any (fun x=>!f x)=!xs.all f:=by
 induction xs with
 |nil=>rfl
 |cons a r ih=>simp[ih,Bool.not_and]
namespace mM
abbrev wf(x0:eE):Prop:=fW [(.val aHu .f)] (x0,())
noncomputable def aR(x0:eE):Option kZ:=
 if(!(aB x0.2.1 (0:Int) (300:Int)))=true then
 some ((),(false,()))
 else
 if(!(aB x0.2.2.2.1 (0:Int) (300:Int)))=true then
 some ((),(false,()))
 else
 if(!(gU x0.2.2.2.2.1 (300:Int)))=true then
 some ((),(false,()))
 else
 if(decide ((30000:Int)<((length x0.2.2.2.2.2.1:Nat):Int)))=true then
 some ((),(false,()))
 else
 if(decide (x0.1=(1:Int)))=true then
 if(aB x0.2.2.1 (-1:Int) (4:Int))=true then
 if(decide (x0.2.2.2.1=(0:Int)))=true then
 if(decide (((length x0.2.2.2.2.1:Nat):Int)=(0:Int)))=true then
 some ((),((x0.2.2.2.2.2.1==([]:List UInt8)),()))
 else
 some ((),(false,()))
 else
 some ((),(false,()))
 else
 some ((),(false,()))
 else
 if(decide (x0.1=(2:Int)))=true then
 if(decide (x0.2.2.1=(0:Int)))=true then
 some ((),((x0.2.2.2.2.2.1==([]:List UInt8)),()))
 else
 some ((),(false,()))
 else
 if(decide (x0.1=(3:Int)))=true then
 if(decide (x0.2.2.1=(0:Int)))=true then
 some ((),((decide (((length x0.2.2.2.2.1:Nat):Int)=(0:Int))),()))
 else
 some ((),(false,()))
 else
 some ((),(false,()))
theorem eq(x0:eE)(_:wf x0):aR x0=some ((),(mM x0,())):=by
 unfold aR mM jE aGV
 cases aB x0.2.1 0 300
 . simp
 cases aB x0.2.2.2.1 0 300
 . simp
 cases gU x0.2.2.2.2.1 300
 . simp
 by_cases hs:(x0.2.2.2.2.2.1.length:Int)<=30000
 case neg=>
  have hs':(30000:Int)<(x0.2.2.2.2.2.1.length:Int):=by omega
  simp[hs,hs']
 have hs':¬(30000:Int)<(x0.2.2.2.2.2.1.length:Int):=by omega
 simp only[hs,hs',decide_true,decide_false,Bool.not_true,Zj,if_false,Bool.true_and,Za]
 split
 . cases aB x0.2.2.1 (-1) 4<;>simp only[Zj,if_false,if_true,Bool.false_and,Bool.true_and]
   split
   . rename_i h;simp only[h,decide_true,Bool.true_and]
     split
     . rename_i h;simp only[h,decide_true,Bool.true_and]
     . rename_i h;simp only[h,decide_false,Bool.false_and]
   . rename_i h;simp only[h,decide_false,Bool.false_and]
 split
 . split
   . rename_i h;simp only[h,decide_true,Bool.true_and]
   . rename_i h;simp only[h,decide_false,Bool.false_and]
 split
 . split
   . rename_i h;simp only[h,decide_true,Bool.true_and]
   . rename_i h;simp only[h,decide_false,Bool.false_and]
 . rfl
end mM
namespace kS
abbrev wf(x0:eE):Prop:=fW [(.val aHu .f)] (x0,())
noncomputable def aR(x0:eE):Option kZ:=
 if(!(aB x0.2.1 (0:Int) (300:Int)))=true then
 some ((),(false,()))
 else
 if(!(aB x0.2.2.2.1 (0:Int) (300:Int)))=true then
 some ((),(false,()))
 else
 if(decide ((40:Int)<((length x0.2.2.2.2.1:Nat):Int)))=true then
 some ((),(false,()))
 else
 if(decide ((30000:Int)<((length x0.2.2.2.2.2.1:Nat):Int)))=true then
 some ((),(false,()))
 else
 if(bR.pre x0.2.2.2.2.1 ((fun x=>true),(fun x=>(iM x))))=true then
 if(bR x0.2.2.2.2.1 ((fun x=>true),(fun x=>(iM x))))=true then
 some ((),(false,()))
 else
 if(decide (x0.1=(1:Int)))=true then
 if(aB x0.2.2.1 (-1:Int) (4:Int))=true then
 if(decide (x0.2.2.2.1=(0:Int)))=true then
 if(decide (((length x0.2.2.2.2.1:Nat):Int)=(0:Int)))=true then
 some ((),((x0.2.2.2.2.2.1==([]:List UInt8)),()))
 else
 some ((),(false,()))
 else
 some ((),(false,()))
 else
 some ((),(false,()))
 else
 if(decide (x0.1=(2:Int)))=true then
 if(decide (x0.2.2.1=(0:Int)))=true then
 some ((),((x0.2.2.2.2.2.1==([]:List UInt8)),()))
 else
 some ((),(false,()))
 else
 if(decide (x0.1=(3:Int)))=true then
 if(decide (x0.2.2.1=(0:Int)))=true then
 some ((),((decide (((length x0.2.2.2.2.1:Nat):Int)=(0:Int))),()))
 else
 some ((),(false,()))
 else
 some ((),(false,()))
 else
 none
theorem eq(x0:eE)(_:wf x0):aR x0=some ((),(kS x0,())):=by
 unfold aR kS jE aGV gU
 cases aB x0.2.1 0 300
 . simp
 cases aB x0.2.2.2.1 0 300
 . simp
 by_cases hl:(x0.2.2.2.2.1.length:Int)<=40
 case neg=>
  have hl':(40:Int)<(x0.2.2.2.2.1.length:Int):=by omega
  have hl2:¬x0.2.2.2.2.1.length<=40:=by omega
  simp[hl',hl2]
 have hl':¬(40:Int)<(x0.2.2.2.2.1.length:Int):=by omega
 have hl2:x0.2.2.2.2.1.length<=40:=by omega
 by_cases hs:(x0.2.2.2.2.2.1.length:Int)<=30000
 case neg=>
  have hs':(30000:Int)<(x0.2.2.2.2.2.1.length:Int):=by omega
  simp[hs,hs',hl']
 have hs':¬(30000:Int)<(x0.2.2.2.2.2.1.length:Int):=by omega
 have hpre:bR.pre x0.2.2.2.2.1 ((fun _=>true),(fun x=>iM x))=true:=by simp[bR.pre]
 have hany:bR x0.2.2.2.2.1 ((fun _=>true),(fun x=>iM x))=!x0.2.2.2.2.1.all (eOk 300):=aH3 (eOk 300) _
 simp only[hl',hs',hs,hl2,hpre,hany,decide_true,decide_false,Bool.not_true,Zj,if_false,if_true,Bool.true_and,Bool.and_true,Za]
 cases x0.2.2.2.2.1.all (eOk 300)
 . simp
 simp only[Bool.not_true,Zj,if_false,Bool.true_and]
 split
 . cases aB x0.2.2.1 (-1) 4<;>simp only[Zj,if_false,if_true,Bool.false_and,Bool.true_and]
   split
   . rename_i h;simp only[h,decide_true,Bool.true_and]
     split
     . rename_i h;simp only[h,decide_true,Bool.true_and]
     . rename_i h;simp only[h,decide_false,Bool.false_and]
   . rename_i h;simp only[h,decide_false,Bool.false_and]
 split
 . split
   . rename_i h;simp only[h,decide_true,Bool.true_and]
   . rename_i h;simp only[h,decide_false,Bool.false_and]
 split
 . split
   . rename_i h;simp only[h,decide_true,Bool.true_and]
   . rename_i h;simp only[h,decide_false,Bool.false_and]
 . rfl
end kS
theorem tL{n lo hi:Int}(h:aB n lo hi=true):lo<=n/\n<=hi:=by
 simpa [aB] using h
theorem sG{w:Nat}{x:Int}(h0:0<=x)(h1:x.toNat<2^w):(BitVec.ofInt w x).toNat=x.toNat:=by
 rw[BitVec.toNat_ofInt]
 have:x%((2^w:Nat):Int)=x:=Int.emod_eq_of_lt h0 (by omega)
 rw[this]
theorem aNO{x:Int}(h0:0<=x)(h1:x<=9223372036854775807):intBits .and .i64 x 127=x%128:=by
 show wrap .i64 (((BitVec.ofInt 64 x)&&&(BitVec.ofInt 64 127)).toNat:Int)=_
 rw[BitVec.toNat_and,sG h0 (by omega),sG (by omega) (by decide)]
 have:x.toNat&&&Int.toNat 127=x.toNat%128:=Nat.and_two_pow_sub_one_eq_mod x.toNat 7
 rw[this]
 have e:((x.toNat%128:Nat):Int)=x%128:=by omega
 rw[e,iV (by omega) (by omega)]
theorem aN9{x:Int}(h0:0<=x)(h1:x<=255):intBits .and .u8 x 127=x%128:=by
 show wrap .u8 (((BitVec.ofInt 8 x)&&&(BitVec.ofInt 8 127)).toNat:Int)=_
 rw[BitVec.toNat_and,sG h0 (by omega),sG (by omega) (by decide)]
 have:x.toNat&&&Int.toNat 127=x.toNat%128:=Nat.and_two_pow_sub_one_eq_mod x.toNat 7
 rw[this]
 have e:((x.toNat%128:Nat):Int)=x%128:=by omega
 rw[e,w8 (by omega) (by omega)]
theorem aOE{x:Int}(h0:0<=x)(h1:x<128):intBits .or .u8 x 128=x+128:=by
 show wrap .u8 (((BitVec.ofInt 8 x)|||(BitVec.ofInt 8 128)).toNat:Int)=_
 rw[BitVec.toNat_or,sG h0 (by omega),sG (by omega) (by decide)]
 have:x.toNat|||Int.toNat 128=128*1+x.toNat:=by
  rw[Nat.or_comm]
  exact(Nat.two_pow_add_eq_or_of_lt (i:=7) (b:=x.toNat) (by omega) 1).symm
 rw[this]
 have e:((128*1+x.toNat:Nat):Int)=x+128:=by omega
 rw[e,w8 (by omega) (by omega)]
theorem aHm{n d:Int}{k:Nat}(h0:0<=n)(h1:n<128^k)(h2:0<=d)(h3:d<128)(hk:k<=4):intBits .or .i64 n (wrap .i64 (d*2^(7*k)))=n+d*128^k:=by
 have hp:(2:Int)^(7*k)=128^k:=by rw[Int.pow_mul];rfl
 have hpn:(128:Int)^k<=268435456:=by
  have:k=0\/k=1\/k=2\/k=3\/k=4:=by omega
  rcases this with rfl|rfl|rfl|rfl|rfl<;>decide
 have hpos:(0:Int)<128^k:=Int.pow_pos (by decide)
 have hd:d*128^k<=127*268435456:=Int.mul_le_mul (by omega) hpn (by omega) (by omega)
 have hd0:0<=d*128^k:=Int.mul_nonneg h2 (by omega)
 rw[hp,iV (by omega) (by omega)]
 show wrap .i64 (((BitVec.ofInt 64 n)|||(BitVec.ofInt 64 (d*128^k))).toNat:Int)=_
 rw[BitVec.toNat_or,sG h0 (by omega),sG hd0 (by omega)]
 have e0:(d*128^k).toNat=2^(7*k)*d.toNat:=by
  have:d*128^k=((2^(7*k)*d.toNat:Nat):Int):=by
   rw[Int.natCast_mul,Int.natCast_pow,Int.toNat_of_nonneg h2,<-hp,Int.mul_comm];rfl
  rw[this];rfl
 have hn:n.toNat<2^(7*k):=by
  have:(n.toNat:Int)<((2^(7*k):Nat):Int):=by
   rw[Int.toNat_of_nonneg h0,Int.natCast_pow]
   show n<2^(7*k)
   rw[hp];exact h1
  omega
 rw[Nat.or_comm,e0,<-Nat.two_pow_add_eq_or_of_lt hn,<-e0]
 have e:(((d*128^k).toNat+n.toNat:Nat):Int)=n+d*128^k:=by omega
 rw[e,iV (by omega) (by omega)]
theorem aOu(x:Int):Int.fdiv x (2^min (Int.toNat (7:Int)) (IntKind.bits .i64))=x/128:=by
 show Int.fdiv x 128=_
 rw[Int.fdiv_eq_ediv_of_nonneg _ (by decide)]
def aEJ(n:Nat):List Int:=if n<=127 then[] else((n%128+128:Nat):Int)::aEJ (n/128)
termination_by n
decreasing_by omega
def aFp(n:Nat):Nat:=if n<=127 then n else aFp (n/128)
termination_by n
decreasing_by omega
def aGH(n:Nat):List Int:=aEJ n++[(aFp n:Int)]
def pD(n:Int):List Int:=if 0<=n/\n<=2147483647 then aGH n.toNat else[]
abbrev iN:=pD
theorem aMD(n:Nat):aFp n<=127:=by
 induction n using Nat.strongRecOn with
 |ind n ih=>
  rw[aFp]
  split
  . assumption
  . exact ih _ (by omega)
theorem aER:(k:Nat)->{n:Nat}->n<128^(k+1)->(aEJ n).length<=k
 |0,n,h=>by rw[aEJ,if_pos (by omega)];simp
 |k+1,n,h=>by
  rw[aEJ]
  split
  . simp
  . rw[Zg]
    have:=aER k (n:=n/128) (by rw[Nat.pow_succ] at h;omega)
    omega
theorem nE(n:Int):(pD n).length<=5:=by
 unfold pD
 split
 . rw[aGH,Zf]
   have:=aER 4 (n:=n.toNat) (by omega)
   simpa using this
 . simp
abbrev PnS:=Int×(List Int×Unit)
def aBj:PnS->Bool:=fun s=>decide (0<=s.1)&&(decide (s.1<=2147483647)&&decide (s.2.1.length+s.1.toNat<=2147483700))
def aLs:PnS->PnS:=fun s=>((aFp s.1.toNat:Int),(s.2.1++aEJ s.1.toNat,()))
def aNb:PnS->Nat:=fun s=>s.1.toNat
theorem aMF{n:Int}{out:List Int}(hp:aBj (n,(out,()))=true)(h:127<n):Rounds aBj aNb aLs (n,(out,())) (some (.inl (n/128,(out++[n%128+128],())))):=by
 simp only[aBj,Zb,Za] at hp
 obtain⟨h0,h1,h2⟩:=hp
 simp only[Rounds]
 refine⟨?_,by simp only[aNb];omega,?_⟩
 . simp only[aBj,Zb,Za,Zf,Zg,Zh]
   omega
 . simp only[aLs]
   have e:(n/128).toNat=n.toNat/128:=by omega
   have e2:((n.toNat%128+128:Nat):Int)=n%128+128:=by omega
   rw[e]
   conv=>rhs;rw[aFp,if_neg (by omega),aEJ,if_neg (by omega),e2]
   simp
theorem aO0{n:Int}{out:List Int}(hp:aBj (n,(out,()))=true)(h:¬127<n):Rounds aBj aNb aLs (n,(out,())) (some (.inr (n,(out,())))):=by
 simp only[aBj,Zb,Za] at hp
 obtain⟨h0,h1,h2⟩:=hp
 simp only[Rounds,aLs]
 rw[aFp,if_pos (by omega),aEJ,if_pos (by omega),Int.toNat_of_nonneg h0,List.append_nil]
namespace iN
def pre4:=aBj
def fn4:=aLs
def qD:=aNb
noncomputable def hJ(x1:Int)(x2:(List Int)):Option ((Int×tG)⊕(Int×tG)):=
 if(decide ((127:Int)<x1))=true then
 if(decide (length x2+length ((intBits .or .u8 (wrap .u8 (intBits .and .i64 x1 (127:Int))) (128:Int))::([]:List Int))<=lT))=true then
 if(decide ((0:Int)<=(7:Int)))=true then
 some (.inl ((Int.fdiv x1 (2^min (Int.toNat (7:Int)) (IntKind.bits .i64))),((List.append x2 ((intBits .or .u8 (wrap .u8 (intBits .and .i64 x1 (127:Int))) (128:Int))::([]:List Int))),())))
 else
 none
 else
 none
 else
 some (.inr (x1,(x2,())))
abbrev wf(x0:Int):Prop:=fW [(.val (.int .i64) .f)] (x0,())
noncomputable def aR(x0:Int):Option (Unit×tG):=
 if(!(aB x0 (0:Int) (2147483647:Int)))=true then
 some ((),(([]:List Int),()))
 else
 if(iN.pre4 (x0,(([]:List Int),())))=true then
 if(decide (length (iN.fn4 (x0,(([]:List Int),()))).2.1+length ((wrap .u8 (iN.fn4 (x0,(([]:List Int),()))).1)::([]:List Int))<=lT))=true then
 some ((),((List.append (iN.fn4 (x0,(([]:List Int),()))).2.1 ((wrap .u8 (iN.fn4 (x0,(([]:List Int),()))).1)::([]:List Int))),()))
 else
 none
 else
 none
theorem zE(x1:Int)(x2:List Int)(hp:pre4 (x1,(x2,()))=true):Rounds pre4 qD fn4 (x1,(x2,())) (hJ x1 x2):=by
 have hp':=hp
 simp only[pre4,aBj,Zb,Za] at hp'
 obtain⟨h0,h1,h2⟩:=hp'
 unfold hJ
 by_cases h:127<x1
 . rw[aNO h0 (by omega),w8 (n:=x1%128) (by omega) (by omega),aOE (by omega) (by omega),aOu]
   rw[if_pos (by simp[h]),if_pos (by simp only[Zg,Zh,Za,lT];omega),if_pos (by decide)]
   exact aMF hp h
 . rw[if_neg (by simp[h])]
   exact aO0 hp h
theorem eq(x0:Int)(_:wf x0):aR x0=some ((),(iN x0,())):=by
 unfold aR iN pD aB
 by_cases h:0<=x0/\x0<=2147483647
 . have hl:=aER 4 (n:=x0.toNat) (by omega)
   have hz:=aMD x0.toNat
   rw[if_neg (by simp[h]),if_pos (show pre4 _=true by simp[pre4,aBj];omega)]
   have hf:fn4 (x0,(([]:List Int),()))=((aFp x0.toNat:Int),([]++aEJ x0.toNat,())):=rfl
   rw[hf,if_pos (by simp only[List.nil_append,Zg,Zh,Za,lT];omega),if_pos h]
   simp only[List.nil_append,List.append_eq,aGH]
   rw[w8 (by omega) (by omega)]
 . rw[if_pos (by simp only[Bool.not_eq_true',Bool.and_eq_false_iff,Zv];omega),if_neg h]
end iN
def qY(s:List UInt8):List Int:=pD s.length++fT s
abbrev eX:=qY
def aEE(s:List UInt8):Bool:=decide (s.length<=1073741824)
theorem uL(s:List UInt8):(qY s).length<=s.length+5:=by
 have:=nE s.length
 simp only[qY,Zf,fT,List.length_map];omega
namespace eX
def pre:=aEE
abbrev wf(x0:(List UInt8)):Prop:=fW [(.val .str .f)] (x0,())
noncomputable def aR(x0:(List UInt8)):Option (Unit×tG):=
 letB (pD ((length x0:Nat):Int)) fun v1=>
 if(decide (length v1+length (fT x0)<=lT))=true then
 some ((),((List.append v1 (fT x0)),()))
 else
 none
theorem eq(x0:List UInt8)(_:wf x0)(hp:pre x0=true):aR x0=some ((),(eX x0,())):=by
 have hl:=nE x0.length
 simp only[pre,aEE,Za] at hp
 unfold aR
 simp only[letB]
 rw[if_pos (by simp only[fT,List.length_map,Za,lT];omega)]
 rfl
end eX
def yQ(xs:List Int):List Int:=xs.flatMap pD
abbrev gB:=yQ
theorem aEg:(xs:List Int)->(yQ xs).length<=5*xs.length
 |[]=>by simp[yQ]
 |a::r=>by
  have:=nE a
  have:=aEg r
  simp only[yQ,List.flatMap_cons,Zf,Zg] at *
  omega
def aCk(xs:List Int):Bool:=dI xs
namespace gB
def pre:=aCk
abbrev S:=List Int×(Int×(Int×(List Int×Unit)))
def pre3:S->Bool:=fun s=>dI s.1&&(decide (s.2.1=(s.1.length:Int))&&(decide (0<=s.2.2.1)&&(decide (s.2.2.1.toNat<=s.1.length)&&decide (s.2.2.2.1.length<=5*s.2.2.1.toNat))))
def fn3:S->List Int×Unit:=fun s=>(s.2.2.2.1++yQ (s.1.drop s.2.2.1.toNat),())
def mu3:S->Nat:=fun s=>s.1.length-s.2.2.1.toNat
noncomputable def pK(x1:(List Int))(x2:Int)(x3:Int)(x4:(List Int)):Option (((List Int)×(Int×(Int×tG)))⊕tG):=
 if(decide (x3<x2))=true then
 if(decide ((0:Int)<=x3))=true then
 if(decide (x3<((length x1:Nat):Int)))=true then
 if(decide (length x4+length (pD (List.getD x1 (Int.toNat x3) (0:Int)))<=lT))=true then
 some (.inl (x1,(x2,((wrap .i64 (x3+(1:Int))),((List.append x4 (pD (List.getD x1 (Int.toNat x3) (0:Int)))),())))))
 else
 none
 else
 none
 else
 none
 else
 some (.inr (x4,()))
abbrev wf(x0:(List Int)):Prop:=fW [(.val (.sl 0 (.int .i64)) .f)] (x0,())
noncomputable def aR(x0:(List Int)):Option (Unit×tG):=
 if(gB.pre3 (x0,(((length x0:Nat):Int),((0:Int),(([]:List Int),())))))=true then
 some ((),(gB.fn3 (x0,(((length x0:Nat):Int),((0:Int),(([]:List Int),()))))))
 else
 none
theorem ok3(x1:List Int)(x2 x3:Int)(x4:List Int)(hp:pre3 (x1,(x2,(x3,(x4,()))))=true):Rounds pre3 mu3 fn3 (x1,(x2,(x3,(x4,())))) (pK x1 x2 x3 x4):=by
 simp only[pre3,Zb,Za,cC] at hp
 obtain⟨h1,rfl,h2,h3,h4⟩:=hp
 unfold pK
 by_cases hlt:x3<(x1.length:Int)
 . have hn:x3.toNat<x1.length:=by omega
   have hl:=nE (x1.getD x3.toNat 0)
   rw[if_pos (by simp[hlt]),if_pos (by simp[h2]),if_pos (by simp[hlt]),if_pos (by simp only[Za,lT];omega),iV (n:=x3+1) (by omega) (by omega)]
   simp only[Rounds]
   refine⟨?_,by simp only[mu3];omega,?_⟩
   . simp only[pre3,Zb,Za,cC,List.append_eq,Zf,true_and]
     refine⟨h1,by omega,by omega,by omega⟩
   . simp only[fn3,show(x3+1).toNat=x3.toNat+1 by omega]
     rw[Zn hn,eV hn]
     simp only[yQ,List.flatMap_cons,List.append_eq,Zk]
 . rw[if_neg (by simp[hlt])]
   simp only[Rounds,fn3]
   rw[Zt (by omega)]
   simp[yQ]
theorem eq(x0:List Int)(_:wf x0)(hp:pre x0=true):aR x0=some ((),(gB x0,())):=by
 unfold aR
 rw[if_pos (show pre3 _=true by simp[pre3,show dI x0=true from hp])]
 simp[fn3]
end gB
def dN(_:Int):List Int:=[]
namespace dN
def pre(n:Int):Bool:=decide (0<=n)&&decide (n<=4294967296)
abbrev wf(x0:Int):Prop:=fW [(.nil 5 (.int .u8)),(.val (.int .i64) .f)] (x0,())
noncomputable def aR(x0:Int):Option (Unit×tG):=
 if(decide (x0<(0:Int)))=true then
 none
 else
 if(decide ((0:Int)<(wrap .i64 (x0-(wrap .i64 ((0:Int)-(0:Int)))))))=true then
 if(decide ((0:Int)=(0:Int)))=true then
 if(decide ((0:Int)=(0:Int)))=true then
 if(decide ((0:Int)<=(wrap .i64 (x0-(wrap .i64 ((0:Int)-(0:Int)))))))=true then
 if(decide ((wrap .i64 (x0-(wrap .i64 ((0:Int)-(0:Int)))))<=(4294967296:Int)))=true then
 if(decide ((0:Int)<=(0:Int)))=true then
 if(decide ((0:Int)<=(0:Int)))=true then
 if(decide ((0:Int)<=((length (List.replicate (Int.toNat (wrap .i64 (x0-(wrap .i64 ((0:Int)-(0:Int)))))) (0:Int)):Nat):Int)))=true then
 some ((),((bE (Int.toNat (0:Int)) (Int.toNat (0:Int)) (List.replicate (Int.toNat (wrap .i64 (x0-(wrap .i64 ((0:Int)-(0:Int)))))) (0:Int))),()))
 else
 none
 else
 none
 else
 none
 else
 none
 else
 none
 else
 none
 else
 none
 else
 some ((),(([]:List Int),()))
theorem eq(x0:Int)(_:wf x0)(hp:pre x0=true):aR x0=some ((),(dN x0,())):=by
 simp only[pre,Zb,Za] at hp
 have h0:wrap .i64 ((0:Int)-0)=0:=by decide
 unfold aR
 rw[h0,iV (n:=x0-0) (by omega) (by omega)]
 have hn:¬x0<0:=by omega
 by_cases h:0<x0
 . have h1:0<=x0:=by omega
   simp[hn,h,h1,hp.2,bE,dN]
   omega
 . simp[hn,h,dN]
end dN
def aY(xs:List (List Int)):List Int:=xs.flatten
theorem zC(xs:List (List Int))(i:Nat)(h:i<xs.length):(xs.drop i).flatten.length=xs[i].length+(xs.drop (i+1)).flatten.length:=by
 rw[Zn h,List.flatten_cons,Zf]
namespace aY
def pre(xs:List (List Int)):Bool:=decide (xs.flatten.length<=4294967296)&&dI xs
abbrev S3:=List (List Int)×(Int×(List (List Int)×(Int×(Int×Unit))))
def pre3:S3->Bool:=fun s=>dI s.2.2.1&&(decide (s.1=s.2.2.1)&&(decide (s.2.2.2.1=(s.2.2.1.length:Int))&&(decide (0<=s.2.2.2.2.1)&&(decide (s.2.2.2.2.1.toNat<=s.2.2.1.length)&&(decide (0<=s.2.1)&&decide (s.2.1+((s.2.2.1.drop s.2.2.2.2.1.toNat).flatten.length:Int)<=4294967296))))))
def fn3:S3->List (List Int)×(Int×Unit):=fun s=>(s.1,(s.2.1+((s.2.2.1.drop s.2.2.2.2.1.toNat).flatten.length:Int),()))
def mu3:S3->Nat:=fun s=>s.2.2.1.length-s.2.2.2.2.1.toNat
abbrev S11:=List (List Int)×(Int×(Int×(List Int×Unit)))
def pre11:S11->Bool:=fun s=>dI s.1&&(decide (s.2.1=(s.1.length:Int))&&(decide (0<=s.2.2.1)&&(decide (s.2.2.1.toNat<=s.1.length)&&decide (s.2.2.2.1.length+(s.1.drop s.2.2.1.toNat).flatten.length<=4294967296))))
def fn11:S11->List Int×Unit:=fun s=>(s.2.2.2.1++(s.1.drop s.2.2.1.toNat).flatten,())
def aKr:S11->Nat:=fun s=>s.1.length-s.2.2.1.toNat
noncomputable def pK(x1:(List (List Int)))(x2:Int)(x3:(List (List Int)))(x4:Int)(x5:Int):Option (((List (List Int))×(Int×((List (List Int))×eN)))⊕((List (List Int))×(Int×Unit))):=
 if(decide (x5<x4))=true then
 if(decide ((0:Int)<=x5))=true then
 if(decide (x5<((length x3:Nat):Int)))=true then
 if(decide ((wrap .i64 (x2+((length (List.getD x3 (Int.toNat x5) ([]:List Int)):Nat):Int)))<(0:Int)))=true then
 none
 else
 some (.inl (x1,((wrap .i64 (x2+((length (List.getD x3 (Int.toNat x5) ([]:List Int)):Nat):Int))),(x3,(x4,((wrap .i64 (x5+(1:Int))),()))))))
 else
 none
 else
 none
 else
 some (.inr (x1,(x2,())))
noncomputable def aDZ(x1:(List (List Int)))(x2:Int)(x3:Int)(x4:(List Int)):Option (((List (List Int))×(Int×(Int×tG)))⊕tG):=
 if(decide (x3<x2))=true then
 if(decide ((0:Int)<=x3))=true then
 if(decide (x3<((length x1:Nat):Int)))=true then
 if(decide (length x4+length (List.getD x1 (Int.toNat x3) ([]:List Int))<=lT))=true then
 some (.inl (x1,(x2,((wrap .i64 (x3+(1:Int))),((List.append x4 (List.getD x1 (Int.toNat x3) ([]:List Int))),())))))
 else
 none
 else
 none
 else
 none
 else
 some (.inr (x4,()))
abbrev wf(x0:(List (List Int))):Prop:=fW [(.val (.sl 0 wM) .f)] (x0,())
noncomputable def aR(x0:(List (List Int))):Option (Unit×tG):=
 if(aY.pre3 (x0,((0:Int),(x0,(((length x0:Nat):Int),((0:Int),()))))))=true then
 letB (aY.fn3 (x0,((0:Int),(x0,(((length x0:Nat):Int),((0:Int),())))))) fun v1=>
 if(dN.pre v1.2.1)=true then
 letB (dN v1.2.1) fun v2=>
 if(aY.pre11 (v1.1,(((length v1.1:Nat):Int),((0:Int),(v2,())))))=true then
 letB (aY.fn11 (v1.1,(((length v1.1:Nat):Int),((0:Int),(v2,()))))) fun v3=>
 some ((),v3)
 else
 none
 else
 none
 else
 none
theorem ok3(x1:List (List Int))(x2:Int)(x3:List (List Int))(x4 x5:Int)(hp:pre3 (x1,(x2,(x3,(x4,(x5,())))))=true):Rounds pre3 mu3 fn3 (x1,(x2,(x3,(x4,(x5,()))))) (pK x1 x2 x3 x4 x5):=by
 simp only[pre3,Zb,Za,cC] at hp
 obtain⟨h1,rfl,rfl,h2,h3,h4,h5⟩:=hp
 unfold pK
 by_cases hlt:x5<(x1.length:Int)
 . have hn:x5.toNat<x1.length:=by omega
   have hc:=zC x1 x5.toNat hn
   rw[eV hn,if_pos (by simp[hlt]),if_pos (by simp[h2]),if_pos (by simp[hlt]),iV (n:=x2+_) (by omega) (by omega),if_neg (by simp only[Za];omega),iV (by omega) (by omega)]
   simp only[Rounds]
   refine⟨?_,by simp only[mu3];omega,?_⟩
   . simp only[pre3,Zb,Za,cC,show(x5+1).toNat=x5.toNat+1 by omega]
     refine⟨h1,trivial,trivial,by omega,by omega,by omega,by omega⟩
   . simp only[fn3,show(x5+1).toNat=x5.toNat+1 by omega,hc]
     refine Prod.ext rfl (Prod.ext ?_ rfl)
     show _=_
     push_cast;omega
 . rw[if_neg (by simp[hlt])]
   simp only[Rounds,fn3]
   rw[Zt (by omega)]
   simp
theorem aO4(x1:List (List Int))(x2 x3:Int)(x4:List Int)(hp:pre11 (x1,(x2,(x3,(x4,()))))=true):Rounds pre11 aKr fn11 (x1,(x2,(x3,(x4,())))) (aDZ x1 x2 x3 x4):=by
 simp only[pre11,Zb,Za,cC] at hp
 obtain⟨h1,rfl,h2,h3,h4⟩:=hp
 unfold aDZ
 by_cases hlt:x3<(x1.length:Int)
 . have hn:x3.toNat<x1.length:=by omega
   have hc:=zC x1 x3.toNat hn
   rw[eV hn,if_pos (by simp[hlt]),if_pos (by simp[h2]),if_pos (by simp[hlt]),if_pos (by simp only[Za,lT];omega),iV (by omega) (by omega)]
   simp only[Rounds]
   refine⟨?_,by simp only[aKr];omega,?_⟩
   . simp only[pre11,Zb,Za,cC,List.append_eq,Zf,show(x3+1).toNat=x3.toNat+1 by omega]
     refine⟨h1,trivial,by omega,by omega,by omega⟩
   . simp only[fn11,show(x3+1).toNat=x3.toNat+1 by omega]
     rw[Zn hn]
     simp only[List.flatten_cons,List.append_eq,Zk]
 . rw[if_neg (by simp[hlt])]
   simp only[Rounds,fn11]
   rw[Zt (by omega)]
   simp
theorem eq(x0:List (List Int))(_:wf x0)(hp:pre x0=true):aR x0=some ((),(aY x0,())):=by
 simp only[pre,Zb,Za] at hp
 obtain⟨h1,h2⟩:=hp
 unfold aR
 have hf:fn3 (x0,((0:Int),(x0,(((x0.length:Nat):Int),((0:Int),())))))=(x0,((x0.flatten.length:Int),())):=by simp[fn3]
 rw[if_pos (show pre3 _=true by
  simp only[pre3,Zb,Za,Int.toNat_zero,List.drop_zero]
  exact⟨h2,trivial,trivial,by omega,by omega,by omega,by omega⟩),hf]
 simp only[letB]
 rw[if_pos (show dN.pre _=true by simp only[dN.pre,Zb,Za];omega),if_pos (show pre11 _=true by
  simp only[pre11,Zb,Za,Int.toNat_zero,List.drop_zero,dN,Zh]
  exact⟨h2,trivial,by omega,by omega,by omega⟩)]
 simp[fn11,dN,aY]
end aY
def aHf(s:Int×Int)(a:Int):Int×Int:=
 (Int.tmod (wrap .i64 (s.1+wrap .i64 a)) 65521,Int.tmod (wrap .i64 (s.2+Int.tmod (wrap .i64 (s.1+wrap .i64 a)) 65521)) 65521)
def wY(b:List Int):Int:=wrap .i64 (wrap .i64 ((b.foldl aHf (1,0)).2*65536)+(b.foldl aHf (1,0)).1)
abbrev oA:=wY
abbrev nR:=wY
namespace oA
abbrev S:=List Int×(Int×(Int×(Int×Unit)))
def pre3:S->Bool:=fun s=>decide (s.1.length<=maxLen)&&(decide (0<=s.2.2.2.1)&&decide (s.2.2.2.1.toNat<=s.1.length))
def fn3:S->Int×(Int×Unit):=fun s=>(((s.1.drop s.2.2.2.1.toNat).foldl aHf (s.2.1,s.2.2.1)).1,(((s.1.drop s.2.2.2.1.toNat).foldl aHf (s.2.1,s.2.2.1)).2,()))
def mu3:S->Nat:=fun s=>s.1.length-s.2.2.2.1.toNat
noncomputable def pK(x1:(List Int))(x2:Int)(x3:Int)(x4:Int):Option (((List Int)×(Int×eN))⊕eN):=
 if(decide (x4<((length x1:Nat):Int)))=true then
 if(decide ((0:Int)<=x4))=true then
 if(decide (x4<((length x1:Nat):Int)))=true then
 if(!(decide ((65521:Int)=(0:Int))))=true then
 if(!(decide ((65521:Int)=(0:Int))))=true then
 some (.inl (x1,((Int.tmod (wrap .i64 (x2+(wrap .i64 (List.getD x1 (Int.toNat x4) (0:Int))))) (65521:Int)),((Int.tmod (wrap .i64 (x3+(Int.tmod (wrap .i64 (x2+(wrap .i64 (List.getD x1 (Int.toNat x4) (0:Int))))) (65521:Int)))) (65521:Int)),((wrap .i64 (x4+(1:Int))),())))))
 else
 none
 else
 none
 else
 none
 else
 none
 else
 some (.inr (x2,(x3,())))
abbrev wf(x0:(List Int)):Prop:=fW [(.val wM .f)] (x0,())
noncomputable def aR(x0:(List Int)):Option xT:=
 if(oA.pre3 (x0,((1:Int),nW)))=true then
 some ((),((wrap .i64 ((wrap .i64 ((oA.fn3 (x0,((1:Int),nW))).2.1*(65536:Int)))+(oA.fn3 (x0,((1:Int),nW))).1)),()))
 else
 none
theorem ok3(x1:List Int)(x2 x3 x4:Int)(hp:pre3 (x1,(x2,(x3,(x4,()))))=true):Rounds pre3 mu3 fn3 (x1,(x2,(x3,(x4,())))) (pK x1 x2 x3 x4):=by
 simp only[pre3,Zb,Za] at hp
 obtain⟨h1,h2,h3⟩:=hp
 have hM:=lH
 unfold pK
 by_cases hlt:x4<(x1.length:Int)
 . have hn:x4.toNat<x1.length:=by omega
   have e1:=Zn hn
   rw[if_pos (by simp[hlt]),if_pos (by simp[h2]),if_pos (by simp[hlt]),if_pos (by decide),if_pos (by decide),eV hn,iV (n:=x4+1) (by omega) (by omega)]
   simp only[Rounds]
   refine⟨?_,by simp only[mu3];omega,?_⟩
   . simp only[pre3,Zb,Za];omega
   . simp only[fn3,show(x4+1).toNat=x4.toNat+1 by omega,e1,List.foldl_cons,aHf]
 . rw[if_neg (by simp[hlt])]
   simp only[Rounds,fn3]
   rw[Zt (by omega)]
   rfl
theorem eq(x0:List Int)(hw:wf x0):aR x0=some ((),(oA x0,())):=by
 have h1:x0.length<=maxLen:=hw.1.1
 unfold aR
 rw[if_pos (show pre3 _=true by simp[pre3,h1])]
 rfl
end oA
namespace nR
abbrev S:=Int×(Int×(List Int×(Int×(Int×Unit))))
def pre3:S->Bool:=fun s=>decide (s.2.2.1.length<=maxLen)&&(decide (s.2.2.2.1=(s.2.2.1.length:Int))&&(decide (0<=s.2.2.2.2.1)&&decide (s.2.2.2.2.1.toNat<=s.2.2.1.length)))
def fn3:S->Int×(Int×Unit):=fun s=>(((s.2.2.1.drop s.2.2.2.2.1.toNat).foldl aHf (s.1,s.2.1)).1,(((s.2.2.1.drop s.2.2.2.2.1.toNat).foldl aHf (s.1,s.2.1)).2,()))
def mu3:S->Nat:=fun s=>s.2.2.1.length-s.2.2.2.2.1.toNat
noncomputable def pK(x1:Int)(x2:Int)(x3:(List Int))(x4:Int)(x5:Int):Option ((Int×(Int×((List Int)×eN)))⊕eN):=
 if(decide (x5<x4))=true then
 if(decide ((0:Int)<=x5))=true then
 if(decide (x5<((length x3:Nat):Int)))=true then
 if(!(decide ((65521:Int)=(0:Int))))=true then
 if(!(decide ((65521:Int)=(0:Int))))=true then
 some (.inl ((Int.tmod (wrap .i64 (x1+(wrap .i64 (List.getD x3 (Int.toNat x5) (0:Int))))) (65521:Int)),((Int.tmod (wrap .i64 (x2+(Int.tmod (wrap .i64 (x1+(wrap .i64 (List.getD x3 (Int.toNat x5) (0:Int))))) (65521:Int)))) (65521:Int)),(x3,(x4,((wrap .i64 (x5+(1:Int))),()))))))
 else
 none
 else
 none
 else
 none
 else
 none
 else
 some (.inr (x1,(x2,())))
abbrev wf(x0:(List Int)):Prop:=fW [(.val wM .f)] (x0,())
noncomputable def aR(x0:(List Int)):Option xT:=
 if(nR.pre3 ((1:Int),((0:Int),(x0,(((length x0:Nat):Int),((0:Int),()))))))=true then
 some ((),((wrap .i64 ((wrap .i64 ((nR.fn3 ((1:Int),((0:Int),(x0,(((length x0:Nat):Int),((0:Int),())))))).2.1*(65536:Int)))+(nR.fn3 ((1:Int),((0:Int),(x0,(((length x0:Nat):Int),((0:Int),())))))).1)),()))
 else
 none
theorem ok3(x1 x2:Int)(x3:List Int)(x4 x5:Int)(hp:pre3 (x1,(x2,(x3,(x4,(x5,())))))=true):Rounds pre3 mu3 fn3 (x1,(x2,(x3,(x4,(x5,()))))) (pK x1 x2 x3 x4 x5):=by
 simp only[pre3,Zb,Za] at hp
 obtain⟨h1,rfl,h2,h3⟩:=hp
 have hM:=lH
 unfold pK
 by_cases hlt:x5<(x3.length:Int)
 . have hn:x5.toNat<x3.length:=by omega
   have e1:=Zn hn
   rw[if_pos (by simp[hlt]),if_pos (by simp[h2]),if_pos (by simp[hlt]),if_pos (by decide),if_pos (by decide),eV hn,iV (n:=x5+1) (by omega) (by omega)]
   simp only[Rounds]
   refine⟨?_,by simp only[mu3];omega,?_⟩
   . simp only[pre3,Zb,Za];exact⟨h1,trivial,by omega,by omega⟩
   . simp only[fn3,show(x5+1).toNat=x5.toNat+1 by omega,e1,List.foldl_cons,aHf]
 . rw[if_neg (by simp[hlt])]
   simp only[Rounds,fn3]
   rw[Zt (by omega)]
   rfl
theorem eq(x0:List Int)(hw:wf x0):aR x0=some ((),(nR x0,())):=by
 have h1:x0.length<=maxLen:=hw.1.1
 unfold aR
 rw[if_pos (show pre3 _=true by simp[pre3,h1])]
 rfl
end nR
def aHe(s:Int):List Int:=
 [wrap .u8 s,wrap .u8 (Int.fdiv s (2^min (Int.toNat (8:Int)) (IntKind.bits .i64))),wrap .u8 (Int.fdiv s (2^min (Int.toNat (16:Int)) (IntKind.bits .i64))),wrap .u8 (Int.fdiv s (2^min (Int.toNat (24:Int)) (IntKind.bits .i64)))]
def oQ(b:List Int):List Int:=aHe (wY b)
namespace oQ
abbrev wf(x0:(List Int)):Prop:=fW [(.val wM .f)] (x0,())
noncomputable def aR(x0:(List Int)):Option (Unit×tG):=
 if(decide ((0:Int)<=(8:Int)))=true then
 if(decide ((0:Int)<=(16:Int)))=true then
 if(decide ((0:Int)<=(24:Int)))=true then
 some ((),(((wrap .u8 (wY x0))::((wrap .u8 (Int.fdiv (wY x0) (2^min (Int.toNat (8:Int)) (IntKind.bits .i64))))::((wrap .u8 (Int.fdiv (wY x0) (2^min (Int.toNat (16:Int)) (IntKind.bits .i64))))::((wrap .u8 (Int.fdiv (wY x0) (2^min (Int.toNat (24:Int)) (IntKind.bits .i64))))::([]:List Int))))),()))
 else
 none
 else
 none
 else
 none
theorem eq(x0:List Int)(_:wf x0):aR x0=some ((),(oQ x0,())):=by
 unfold aR
 rw[if_pos (by decide),if_pos (by decide),if_pos (by decide)]
 rfl
end oQ
def bQ(b:List Int):Bool:=b.all fun x=>decide (0<=x)&&decide (x<=255)
theorem aCW{b:List Int}(h:bQ b=true){i:Nat}(hi:i<b.length):0<=b[i]/\b[i]<=255:=by
 have:=Zu.1 h _ (List.getElem_mem hi)
 simpa using this
theorem gN{b:List Int}(h:∀(i:Nat) (x:Int),b[i]?=some x->inK .u8 x):bQ b=true:=by
 refine Zu.2 fun x hx=>?_
 obtain⟨i,hi,rfl⟩:=List.getElem_of_mem hx
 have:=in8.1 (h i _ (Zm hi))
 simpa using this
def gn(e:Option (Option (Int×Nat))):Nat->Nat->List Int->Int->Option (Option (Int×Nat))
 |0,_,_,_=>none
 |_+1,_,[],_=>e
 |f+1,k,a::r,acc=>
  if a<128 then
   if 0<k/\a=0 then some none
   else if 2147483647<acc+a%128*128^k then some none
   else some (some (acc+a%128*128^k,k+1))
  else gn e f (k+1) r (acc+a%128*128^k)
abbrev GnR:=(Int×aDq)⊕Unit
def aEU(i:Int):Option (Option (Int×Nat))->GnR
 |none=>.inr ()
 |some none=>.inl (0,(0,(false,())))
 |some (some p)=>.inl (p.1,(i+p.2,(true,())))
def aCj(i:Int):Option (Option (Int×Nat))->Int×(Int×Bool)
 |some (some p)=>(p.1,(i+p.2,true))
 |_=>(0,(0,false))
def dM(b:List Int)(i:Int):Int×(Int×Bool):=if i<0 then(0,(0,false)) else aCj i (gn (some none) 5 0 (b.drop i.toNat) 0)
abbrev gC:=dM
def bW(b:List Int)(i:Int):Int×(Int×Bool):=if 9223372036854775802<i then(0,(0,false)) else dM b i
theorem aJF(i:Int):(f k:Nat)->(l:List Int)->(acc:Int)->aCj i (gn none f k l acc)=aCj i (gn (some none) f k l acc)
 |0,_,_,_=>rfl
 |_+1,_,[],_=>rfl
 |f+1,k,a::r,acc=>by
  simp only[gn]
  split
  . rfl
  . exact aJF i f (k+1) r _
theorem aG6{i:Int}{r:Option (Option (Int×Nat))}{α:Type}(g:Int×aDq->α):
 (match aEU i r with|.inl y=>g y|.inr _=>g (0,(0,(false,()))))=g ((aCj i r).1,((aCj i r).2.1,((aCj i r).2.2,()))):=by
 match r with
 |none=>rfl
 |some none=>rfl
 |some (some p)=>rfl
theorem aL7{k:Nat}(hk:k<=4):(128:Int)^k<=268435456/\0<(128:Int)^k:=by
 have:k=0\/k=1\/k=2\/k=3\/k=4:=by omega
 rcases this with rfl|rfl|rfl|rfl|rfl<;>decide
theorem aL3{acc d:Int}{k:Nat}(h1:acc<128^k)(h3:d<128):acc+d*128^k<128^(k+1):=by
 have hpos:(0:Int)<128^k:=Int.pow_pos (by decide)
 have:(d+1)*128^k<=128*128^k:=Int.mul_le_mul_of_nonneg_right (by omega) (by omega)
 rw[Int.add_mul] at this
 rw[Int.pow_succ];omega
theorem aOD{k:Int}(h0:0<=k)(h1:k<=4):min (Int.toNat (wrap .i64 (7*k))) (IntKind.bits .i64)=7*k.toNat:=by
 rw[iV (by omega) (by omega)]
 show min _ 64=_
 omega
namespace gC
abbrev S:=List Int×(Int×(Int×(Int×Unit)))
def pre3:S->Bool:=fun s=>bQ s.1&&(decide (s.1.length<=maxLen)&&(decide (0<=s.2.2.1)&&(decide (0<=s.2.2.2.1)&&(decide (s.2.2.2.1<=5)&&(decide (s.2.2.1<128^s.2.2.2.1.toNat)&&(decide (s.2.2.2.1=0)||decide (0<=s.2.1/\s.2.1+s.2.2.2.1<=(s.1.length:Int))))))))
def fn3:S->GnR:=fun s=>if 5<=s.2.2.2.1 then .inr () else if s.2.1<0 then .inl (0,(0,(false,()))) else aEU s.2.1 (gn (some none) (5-s.2.2.2.1.toNat) s.2.2.2.1.toNat (s.1.drop (s.2.1.toNat+s.2.2.2.1.toNat)) s.2.2.1)
def mu3:S->Nat:=fun s=>5-s.2.2.2.1.toNat
noncomputable def pK(x1:(List Int))(x2:Int)(x3:Int)(x4:Int):Option (((List Int)×(Int×eN))⊕((Int×aDq)⊕Unit)):=
 if(decide (x4<(5:Int)))=true then
 if(decide (x2<(0:Int)))=true then
 some (.inr (.inl ((0:Int),tH)))
 else
 if(decide ((wrap .i64 (((length x1:Nat):Int)-x4))<=x2))=true then
 some (.inr (.inl ((0:Int),tH)))
 else
 if(decide ((0:Int)<=(wrap .i64 (x2+x4))))=true then
 if(decide ((wrap .i64 (x2+x4))<((length x1:Nat):Int)))=true then
 if(!(decide ((128:Int)=(0:Int))))=true then
 if(decide ((0:Int)<=(wrap .i64 ((7:Int)*x4))))=true then
 if(decide ((wrap .i64 (List.getD x1 (Int.toNat (wrap .i64 (x2+x4))) (0:Int)))<(128:Int)))=true then
 if(decide ((0:Int)<x4))=true then
 if(decide ((wrap .i64 (List.getD x1 (Int.toNat (wrap .i64 (x2+x4))) (0:Int)))=(0:Int)))=true then
 some (.inr (.inl ((0:Int),tH)))
 else
 if(decide ((2147483647:Int)<(intBits .or .i64 x3 (wrap .i64 ((Int.tmod (wrap .i64 (List.getD x1 (Int.toNat (wrap .i64 (x2+x4))) (0:Int))) (128:Int))*2^min (Int.toNat (wrap .i64 ((7:Int)*x4))) (IntKind.bits .i64))))))=true then
 some (.inr (.inl ((0:Int),tH)))
 else
 some (.inr (.inl ((intBits .or .i64 x3 (wrap .i64 ((Int.tmod (wrap .i64 (List.getD x1 (Int.toNat (wrap .i64 (x2+x4))) (0:Int))) (128:Int))*2^min (Int.toNat (wrap .i64 ((7:Int)*x4))) (IntKind.bits .i64)))),((wrap .i64 ((wrap .i64 (x2+x4))+(1:Int))),(true,())))))
 else
 if(decide ((2147483647:Int)<(intBits .or .i64 x3 (wrap .i64 ((Int.tmod (wrap .i64 (List.getD x1 (Int.toNat (wrap .i64 (x2+x4))) (0:Int))) (128:Int))*2^min (Int.toNat (wrap .i64 ((7:Int)*x4))) (IntKind.bits .i64))))))=true then
 some (.inr (.inl ((0:Int),tH)))
 else
 some (.inr (.inl ((intBits .or .i64 x3 (wrap .i64 ((Int.tmod (wrap .i64 (List.getD x1 (Int.toNat (wrap .i64 (x2+x4))) (0:Int))) (128:Int))*2^min (Int.toNat (wrap .i64 ((7:Int)*x4))) (IntKind.bits .i64)))),((wrap .i64 ((wrap .i64 (x2+x4))+(1:Int))),(true,())))))
 else
 some (.inl (x1,(x2,((intBits .or .i64 x3 (wrap .i64 ((Int.tmod (wrap .i64 (List.getD x1 (Int.toNat (wrap .i64 (x2+x4))) (0:Int))) (128:Int))*2^min (Int.toNat (wrap .i64 ((7:Int)*x4))) (IntKind.bits .i64)))),((wrap .i64 (x4+(1:Int))),())))))
 else
 none
 else
 none
 else
 none
 else
 none
 else
 some (.inr (.inr ()))
abbrev wf(x0:(List Int))(x1:Int):Prop:=fW [(.val wM .f),(.val (.int .i64) .f)] (x0,(x1,()))
noncomputable def aR(x0:(List Int))(x1:Int):Option (Unit×(Int×aDq)):=
 if(gC.pre3 (x0,(x1,nW)))=true then
  match(gC.fn3 (x0,(x1,nW))) with
  |.inl y=>
   some ((),y)
  |.inr y=>
   some ((),((0:Int),tH))
 else
  none
theorem ok3(x1:List Int)(x2 x3 x4:Int)(hp:pre3 (x1,(x2,(x3,(x4,()))))=true):Rounds pre3 mu3 fn3 (x1,(x2,(x3,(x4,())))) (pK x1 x2 x3 x4):=by
 simp only[pre3,Zb,Bool.or_eq_true,Za] at hp
 obtain⟨hb,h1,h2,h3,h4,h5,h6⟩:=hp
 have hM:=lH
 unfold pK
 by_cases hk:x4<5
 case neg=>
  rw[if_neg (by simp[hk])]
  simp only[Rounds,fn3]
  rw[if_pos (by omega)]
 rw[if_pos (by simp[hk])]
 by_cases hi:x2<0
 . rw[if_pos (by simp[hi])]
   simp only[Rounds,fn3]
   rw[if_neg (by omega),if_pos hi]
 rw[if_neg (by simp[hi]),iV (n:=(x1.length:Int)-x4) (by omega) (by omega)]
 have hfu:5-x4.toNat=(4-x4.toNat)+1:=by omega
 by_cases he:(x1.length:Int)-x4<=x2
 . rw[if_pos (by simp[he])]
   simp only[Rounds,fn3]
   rw[if_neg (by omega),if_neg hi,Zt (by omega),hfu]
   rfl
 rw[if_neg (by simp[he]),iV (n:=x2+x4) (by omega) (by omega)]
 have hn:x2.toNat+x4.toNat<x1.length:=by omega
 have hx:(x2+x4).toNat=x2.toNat+x4.toNat:=by omega
 obtain⟨ha0,ha1⟩:=aCW hb hn
 have e1:=Zn hn
 rw[hx,eV hn]
 rw[if_pos (by simp only[Za];omega),if_pos (by simp only[Za];omega),if_pos (by decide),if_pos (by rw[iV (by omega) (by omega)];simp only[Za];omega)]
 generalize ha:x1[x2.toNat+x4.toNat]=a at *
 rw[iV (n:=a) (by omega) (by omega),Int.tmod_eq_emod_of_nonneg ha0,aOD h3 (by omega),aHm h2 h5 (by omega) (by omega) (by omega)]
 have hf:fn3 (x1,(x2,(x3,(x4,()))))=aEU x2 (gn (some none) ((4-x4.toNat)+1) x4.toNat (a::x1.drop (x2.toNat+x4.toNat+1)) x3):=by
  simp only[fn3]
  rw[if_neg (by omega),if_neg hi,hfu,e1]
 simp only[gn] at hf
 have hpw:=aL7 (k:=x4.toNat) (by omega)
 by_cases hs:a<128
 . rw[if_pos hs] at hf
   rw[if_pos (by simp[hs])]
   by_cases hz:0<x4.toNat/\a=0
   . rw[if_pos hz] at hf
     rw[if_pos (by simp only[Za];omega),if_pos (by simp[hz.2])]
     exact hf.symm
   . rw[if_neg hz] at hf
     by_cases hg:2147483647<x3+a%128*128^x4.toNat
     . rw[if_pos hg] at hf
       by_cases h0:0<x4
       . rw[if_pos (by simp[h0]),if_neg (by simp only[Za];omega),if_pos (by simp[hg])]
         exact hf.symm
       . rw[if_neg (by simp[h0]),if_pos (by simp[hg])]
         exact hf.symm
     . rw[if_neg hg] at hf
       have hw:wrap .i64 (x2+x4+1)=x2+((x4.toNat+1:Nat):Int):=by rw[iV (by omega) (by omega)];push_cast;omega
       rw[hw]
       by_cases h0:0<x4
       . rw[if_pos (by simp[h0]),if_neg (by simp only[Za];omega),if_neg (by simp only[Za];exact hg)]
         exact hf.symm
       . rw[if_neg (by simp[h0]),if_neg (by simp only[Za];exact hg)]
         exact hf.symm
 . rw[if_neg hs] at hf
   rw[if_neg (by simp[hs]),iV (n:=x4+1) (by omega) (by omega)]
   have hd0:0<=a%128*128^x4.toNat:=Int.mul_nonneg (by omega) (by omega)
   have hal:=aL3 (k:=x4.toNat) (acc:=x3) (d:=a%128) h5 (by omega)
   have hs1:(x4+1).toNat=x4.toNat+1:=by omega
   simp only[Rounds]
   refine⟨?_,by simp only[mu3];omega,?_⟩
   . simp only[pre3,Zb,Bool.or_eq_true,Za,hs1]
     exact⟨hb,h1,by omega,by omega,by omega,hal,.inr ⟨by omega,by omega⟩⟩
   . rw[hf]
     simp only[fn3,hs1]
     by_cases h5:(5:Int)<=x4+1
     . rw[if_pos h5,show 4-x4.toNat=0 by omega];rfl
     . rw[if_neg h5,if_neg hi,show 5-(x4.toNat+1)=4-x4.toNat by omega,show x2.toNat+(x4.toNat+1)=x2.toNat+x4.toNat+1 by omega]
theorem eq(x0:List Int)(x1:Int)(hw:wf x0 x1):aR x0 x1=some ((),((gC x0 x1).1,((gC x0 x1).2.1,((gC x0 x1).2.2,())))):=by
 have h1:x0.length<=maxLen:=hw.1.1
 have hb:bQ x0=true:=gN hw.1.2
 unfold aR
 rw[if_pos (show pre3 _=true by simp[pre3,h1,hb])]
 have hf:fn3 (x0,(x1,nW))=if x1<0 then .inl (0,(0,(false,()))) else aEU x1 (gn (some none) 5 0 (x0.drop x1.toNat) 0):=rfl
 rw[hf]
 unfold gC dM
 by_cases h:x1<0
 . simp only[if_pos h]
 . simp only[if_neg h]
   exact aG6 (fun y=>some ((),y))
end gC
namespace bW
abbrev S:=List Int×(Int×(Int×(Int×Unit)))
def pre5:S->Bool:=fun s=>bQ s.1&&(decide (s.1.length<=maxLen)&&(decide (0<=s.2.2.1)&&(decide (0<=s.2.1)&&(decide (s.2.1<=9223372036854775807)&&(decide (s.2.1<=s.2.2.2.1)&&(decide (s.2.2.2.1-s.2.1<=5)&&(decide (s.2.2.1<128^(s.2.2.2.1-s.2.1).toNat)&&(decide (s.2.2.2.1=s.2.1)||decide (s.2.1<=9223372036854775802)))))))))
def fn5:S->GnR:=fun s=>if 9223372036854775802<s.2.1 then .inr () else aEU s.2.1 (gn none (5-(s.2.2.2.1-s.2.1).toNat) (s.2.2.2.1-s.2.1).toNat (s.1.drop s.2.2.2.1.toNat) s.2.2.1)
def mu5:S->Nat:=fun s=>5-(s.2.2.2.1-s.2.1).toNat
noncomputable def tX(x1:(List Int))(x2:Int)(x3:Int)(x4:Int):Option (((List Int)×(Int×eN))⊕((Int×aDq)⊕Unit)):=
 if(decide (x4<((length x1:Nat):Int)))=true then
 if(decide (x4<(wrap .i64 (x2+(5:Int)))))=true then
 if(decide ((0:Int)<=x4))=true then
 if(decide (x4<((length x1:Nat):Int)))=true then
 if(decide ((0:Int)<=(wrap .i64 ((7:Int)*(wrap .i64 (x4-x2))))))=true then
 if(decide ((0:Int)<=x4))=true then
 if(decide (x4<((length x1:Nat):Int)))=true then
 if(decide ((List.getD x1 (Int.toNat x4) (0:Int))<(128:Int)))=true then
 if(decide ((2147483647:Int)<(intBits .or .i64 x3 (wrap .i64 ((wrap .i64 (intBits .and .u8 (List.getD x1 (Int.toNat x4) (0:Int)) (127:Int)))*2^min (Int.toNat (wrap .i64 ((7:Int)*(wrap .i64 (x4-x2))))) (IntKind.bits .i64))))))=true then
 some (.inr (.inl ((0:Int),tH)))
 else
 if(decide (x2<x4))=true then
 if(decide ((0:Int)<=x4))=true then
 if(decide (x4<((length x1:Nat):Int)))=true then
 if(decide ((List.getD x1 (Int.toNat x4) (0:Int))=(0:Int)))=true then
 some (.inr (.inl ((0:Int),tH)))
 else
 some (.inr (.inl ((intBits .or .i64 x3 (wrap .i64 ((wrap .i64 (intBits .and .u8 (List.getD x1 (Int.toNat x4) (0:Int)) (127:Int)))*2^min (Int.toNat (wrap .i64 ((7:Int)*(wrap .i64 (x4-x2))))) (IntKind.bits .i64)))),((wrap .i64 (x4+(1:Int))),(true,())))))
 else
 none
 else
 none
 else
 some (.inr (.inl ((intBits .or .i64 x3 (wrap .i64 ((wrap .i64 (intBits .and .u8 (List.getD x1 (Int.toNat x4) (0:Int)) (127:Int)))*2^min (Int.toNat (wrap .i64 ((7:Int)*(wrap .i64 (x4-x2))))) (IntKind.bits .i64)))),((wrap .i64 (x4+(1:Int))),(true,())))))
 else
 some (.inl (x1,(x2,((intBits .or .i64 x3 (wrap .i64 ((wrap .i64 (intBits .and .u8 (List.getD x1 (Int.toNat x4) (0:Int)) (127:Int)))*2^min (Int.toNat (wrap .i64 ((7:Int)*(wrap .i64 (x4-x2))))) (IntKind.bits .i64)))),((wrap .i64 (x4+(1:Int))),())))))
 else
 none
 else
 none
 else
 none
 else
 none
 else
 none
 else
 some (.inr (.inr ()))
 else
 some (.inr (.inr ()))
abbrev wf(x0:(List Int))(x1:Int):Prop:=fW [(.val wM .f),(.val (.int .i64) .f)] (x0,(x1,()))
noncomputable def aR(x0:(List Int))(x1:Int):Option (Unit×(Int×aDq)):=
 if(decide (x1<(0:Int)))=true then
  some ((),((0:Int),tH))
 else
  if(bW.pre5 (x0,(x1,((0:Int),(x1,())))))=true then
   match(bW.fn5 (x0,(x1,((0:Int),(x1,()))))) with
   |.inl y=>
    some ((),y)
   |.inr y=>
    some ((),((0:Int),tH))
  else
   none
theorem ok5(x1:List Int)(x2 x3 x4:Int)(hp:pre5 (x1,(x2,(x3,(x4,()))))=true):Rounds pre5 mu5 fn5 (x1,(x2,(x3,(x4,())))) (tX x1 x2 x3 x4):=by
 simp only[pre5,Zb,Bool.or_eq_true,Za] at hp
 obtain⟨hb,h1,h2,hi0,hi1,h3,h4,h5,h6⟩:=hp
 have hM:=lH
 unfold tX
 by_cases hbig:9223372036854775802<x2
 . have hf:fn5 (x1,(x2,(x3,(x4,()))))=.inr ():=if_pos hbig
   have hwr:¬x4<wrap .i64 (x2+5):=by
    simp[wrap,IntKind.signed,IntKind.bits];split<;>omega
   by_cases hl:x4<(x1.length:Int)
   . rw[if_pos (by simp[hl]),if_neg (by simp[hwr])];exact hf.symm
   . rw[if_neg (by simp[hl])];exact hf.symm
 have hf0:fn5 (x1,(x2,(x3,(x4,()))))=aEU x2 (gn none (5-(x4-x2).toNat) (x4-x2).toNat (x1.drop x4.toNat) x3):=if_neg hbig
 rw[iV (n:=x2+5) (by omega) (by omega)]
 by_cases hl:x4<(x1.length:Int)
 case neg=>
  rw[if_neg (by simp[hl])]
  rw[Zt (by omega)] at hf0
  show _=_
  rw[hf0]
  cases 5-(x4-x2).toNat<;>rfl
 rw[if_pos (by simp[hl])]
 by_cases hk:x4<x2+5
 case neg=>
  rw[if_neg (by simp only[Za];exact hk)]
  show _=_
  rw[hf0,show 5-(x4-x2).toNat=0 by omega];rfl
 have hn:x4.toNat<x1.length:=by omega
 obtain⟨ha0,ha1⟩:=aCW hb hn
 have e1:=Zn hn
 rw[eV hn,iV (n:=x4-x2) (by omega) (by omega)]
 have h04:(0:Int)<=x4:=by omega
 rw[if_pos (by simp only[Za];exact hk),if_pos (by simp[h04]),if_pos (by simp[hl]),if_pos (by rw[iV (by omega) (by omega)];simp only[Za];omega),if_pos (by simp[h04]),if_pos (by simp[hl])]
 rw[show 5-(x4-x2).toNat=(4-(x4-x2).toNat)+1 by omega,e1] at hf0
 generalize ha:x1[x4.toNat]=a at *
 rw[aN9 ha0 ha1,iV (n:=a%128) (by omega) (by omega),aOD (k:=x4-x2) (by omega) (by omega),aHm h2 h5 (by omega) (by omega) (by omega)]
 simp only[gn] at hf0
 have hpw:=aL7 (k:=(x4-x2).toNat) (by omega)
 by_cases hs:a<128
 . rw[if_pos hs] at hf0
   rw[if_pos (by simp[hs])]
   by_cases hg:2147483647<x3+a%128*128^(x4-x2).toNat
   . rw[if_pos (by simp only[Za];exact hg)]
     simp only[if_pos hg] at hf0
     show _=_
     rw[hf0];split<;>rfl
   . rw[if_neg (by simp only[Za];exact hg)]
     have hw:wrap .i64 (x4+1)=x2+(((x4-x2).toNat+1:Nat):Int):=by rw[iV (by omega) (by omega)];push_cast;omega
     rw[hw]
     simp only[if_neg hg] at hf0
     by_cases h0:x2<x4
     . rw[if_pos (by simp[h0]),if_pos (by simp[h04]),if_pos (by simp[hl])]
       by_cases hz:a=0
       . rw[if_pos ⟨by omega,hz⟩] at hf0
         rw[if_pos (by simp[hz])];exact hf0.symm
       . rw[if_neg (by omega)] at hf0
         rw[if_neg (by simp[hz])];exact hf0.symm
     . rw[if_neg (by omega)] at hf0
       rw[if_neg (by simp[h0])];exact hf0.symm
 . rw[if_neg hs] at hf0
   rw[if_neg (by simp[hs]),iV (n:=x4+1) (by omega) (by omega)]
   have hd0:0<=a%128*128^(x4-x2).toNat:=Int.mul_nonneg (by omega) (by omega)
   have hal:=aL3 (k:=(x4-x2).toNat) (acc:=x3) (d:=a%128) h5 (by omega)
   have hs1:(x4+1-x2).toNat=(x4-x2).toNat+1:=by omega
   simp only[Rounds]
   refine⟨?_,by simp only[mu5];omega,?_⟩
   . simp only[pre5,Zb,Bool.or_eq_true,Za,hs1]
     exact⟨hb,h1,by omega,hi0,hi1,by omega,by omega,hal,.inr (by omega)⟩
   . rw[hf0]
     simp only[fn5,hs1]
     rw[if_neg hbig,show 5-((x4-x2).toNat+1)=4-(x4-x2).toNat by omega,show(x4+1).toNat=x4.toNat+1 by omega]
theorem eq(x0:List Int)(x1:Int)(hw:wf x0 x1):aR x0 x1=some ((),((bW x0 x1).1,((bW x0 x1).2.1,((bW x0 x1).2.2,())))):=by
 have h1:x0.length<=maxLen:=hw.1.1
 have hb:bQ x0=true:=gN hw.1.2
 have hi:-9223372036854775808<=x1/\x1<=9223372036854775807:=aP5.1 hw.2.1
 unfold aR bW dM
 by_cases h:x1<0
 . rw[if_pos (by simp[h]),if_neg (by omega),if_pos h]
 . rw[if_neg (by simp[h]),if_pos (show pre5 _=true by simp[pre5,h1,hb];omega)]
   by_cases hbig:9223372036854775802<x1
   . have hf:fn5 (x0,(x1,((0:Int),(x1,()))))=.inr ():=if_pos hbig
     rw[hf,if_pos hbig]
   . have hf:fn5 (x0,(x1,((0:Int),(x1,()))))=aEU x1 (gn none 5 0 (x0.drop x1.toNat) 0):=by
      simp only[fn5]
      rw[if_neg hbig,Int.sub_self];rfl
     rw[hf,if_neg hbig,if_neg h,<-aJF]
     exact aG6 (fun y=>some ((),y))
end bW
def rK(c:Cmd):List Int:=
 if pE c=true then List.append (List.append (yQ [wrap .i64 (c.1+1),c.2.1,c.2.2.1,c.2.2.2.1,c.2.2.2.2.1,c.2.2.2.2.2.1]) (qY c.2.2.2.2.2.2.1)) (qY c.2.2.2.2.2.2.2.1) else[]
abbrev lA:=rK
theorem aD9{c:Cmd}(h:pE c=true):c.2.2.2.2.2.2.1.length<=30/\c.2.2.2.2.2.2.2.1.length<=30:=by
 unfold pE at h
 split at h
 . simp only[Zb,beq_iff_eq] at h
   obtain⟨_,_,_,_,_,_,h1,h2⟩:=h
   rw[h1,h2];simp
 . simp only[Zb,gI,Za] at h
   omega
theorem aBQ(c:Cmd):(rK c).length<=100:=by
 unfold rK
 split
 . rename_i h
   have h1:=aD9 h
   have h2:=aEg [wrap .i64 (c.1+1),c.2.1,c.2.2.1,c.2.2.2.1,c.2.2.2.2.1,c.2.2.2.2.2.1]
   have h3:=uL c.2.2.2.2.2.2.1
   have h4:=uL c.2.2.2.2.2.2.2.1
   simp only[List.append_eq,Zf,Zg,Zh] at *
   omega
 . simp
namespace lA
abbrev wf(x0:Cmd):Prop:=fW [(.val aKt .f)] (x0,())
noncomputable def aR(x0:Cmd):Option (Unit×tG):=
 letB (pE x0) fun v1=>
 if(!v1)=true then
 some ((),(([]:List Int),()))
 else
 if(gB.pre ((wrap .i64 (x0.1+(1:Int)))::(x0.2.1::(x0.2.2.1::(x0.2.2.2.1::(x0.2.2.2.2.1::(x0.2.2.2.2.2.1::([]:List Int))))))))=true then
 if(eX.pre x0.2.2.2.2.2.2.1)=true then
 if(eX.pre x0.2.2.2.2.2.2.2.1)=true then
 letB (yQ ((wrap .i64 (x0.1+(1:Int)))::(x0.2.1::(x0.2.2.1::(x0.2.2.2.1::(x0.2.2.2.2.1::(x0.2.2.2.2.2.1::([]:List Int)))))))) fun v2=>
 letB (qY x0.2.2.2.2.2.2.1) fun v3=>
 letB (qY x0.2.2.2.2.2.2.2.1) fun v4=>
 if(aY.pre (v2::(v3::(v4::([]:List (List Int))))))=true then
 letB (aY (v2::(v3::(v4::([]:List (List Int)))))) fun v5=>
 some ((),(v5,()))
 else
 none
 else
 none
 else
 none
 else
 none
theorem eq(x0:Cmd)(_:wf x0):aR x0=some ((),(lA x0,())):=by
 unfold aR
 simp only[letB]
 by_cases h:pE x0=true
 case neg=>
  rw[if_pos (by simp[h])]
  unfold lA rK
  rw[if_neg h]
 have h1:=aD9 h
 have h2:=aEg [wrap .i64 (x0.1+1),x0.2.1,x0.2.2.1,x0.2.2.2.1,x0.2.2.2.2.1,x0.2.2.2.2.2.1]
 have h3:=uL x0.2.2.2.2.2.2.1
 have h4:=uL x0.2.2.2.2.2.2.2.1
 simp only[Zg,Zh] at h2
 rw[if_neg (by simp[h]),if_pos (show gB.pre _=true by simp[gB.pre,aCk,dI]),if_pos (show eX.pre _=true by simp[eX.pre,aEE];omega),
  if_pos (show eX.pre _=true by simp[eX.pre,aEE];omega),if_pos (show aY.pre _=true by simp[aY.pre,dI];omega)]
 unfold lA rK
 rw[if_pos h]
 simp only[aY,List.flatten_cons,List.flatten_nil,List.append_nil,List.append_eq,Zk]
end lA
def aKR(e:aL):List Int:=pD e.1++rK e.2.1
def aDu(xs:List aL):List Int:=xs.flatMap aKR
theorem aHg:(xs:List aL)->(aDu xs).length<=105*xs.length
 |[]=>by simp[aDu]
 |a::r=>by
  have:=nE a.1
  have:=aBQ a.2.1
  have:=aHg r
  simp only[aDu,aKR,List.flatMap_cons,Zf,Zg] at *
  omega
def aBi(r:eE):List Int:=pD r.1++pD r.2.1++pD (wrap .i64 (r.2.2.1+1))++pD r.2.2.2.1++pD (r.2.2.2.2.1.length:Int)
theorem aG8(r:eE):(aBi r).length<=25:=by
 have h1:=nE r.1
 have h2:=nE r.2.1
 have h3:=nE (wrap .i64 (r.2.2.1+1))
 have h4:=nE r.2.2.2.1
 have h5:=nE (r.2.2.2.2.1.length:Int)
 simp only[aBi,Zf];omega
def mG(r:eE):List Int:=aBi r++aDu r.2.2.2.2.1++qY r.2.2.2.2.2.1
def sC(r:eE):List Int:=if jE r=true then pD (mG r).length++mG r++aHe (wY (mG r)) else[]
abbrev iK:=sC
theorem wR{r:eE}(h:jE r=true):r.2.2.2.2.1.length<=40/\r.2.2.2.2.2.1.length<=30000:=by
 simp only[jE,gU,Zb,Za] at h
 omega
theorem aMe{r:eE}(h:r.2.2.2.2.1.length<=40/\r.2.2.2.2.2.1.length<=30000):(mG r).length<=40000:=by
 have hh:=aG8 r
 have he:=aHg r.2.2.2.2.1
 have ht:=uL r.2.2.2.2.2.1
 simp only[mG,Zf];omega
namespace iK
abbrev S:=List aL×(Int×(Int×(eE×(List Int×Unit))))
def pre5:S->Bool:=fun s=>decide (s.1.length<=40)&&(decide (s.2.1=(s.1.length:Int))&&(decide (0<=s.2.2.1)&&(decide (s.2.2.1.toNat<=s.1.length)&&decide (s.2.2.2.2.1.length<=25+105*s.2.2.1.toNat))))
def fn5:S->eE×(List Int×Unit):=fun s=>(s.2.2.2.1,(s.2.2.2.2.1++aDu (s.1.drop s.2.2.1.toNat),()))
def mu5:S->Nat:=fun s=>s.1.length-s.2.2.1.toNat
noncomputable def tX(x1:(List aL))(x2:Int)(x3:Int)(x4:eE)(x5:(List Int)):Option (((List aL)×(Int×(Int×(eE×tG))))⊕(eE×tG)):=
 if(decide (x3<x2))=true then
 if(decide ((0:Int)<=x3))=true then
 if(decide (x3<((length x1:Nat):Int)))=true then
 if(gB.pre ((List.getD x1 (Int.toNat x3) wX).1::([]:List Int)))=true then
 letB (yQ ((List.getD x1 (Int.toNat x3) wX).1::([]:List Int))) fun v1=>
 letB (rK (List.getD x1 (Int.toNat x3) wX).2.1) fun v2=>
 if(aY.pre (x5::(v1::(v2::([]:List (List Int))))))=true then
 letB (aY (x5::(v1::(v2::([]:List (List Int)))))) fun v3=>
 some (.inl (x1,(x2,((wrap .i64 (x3+(1:Int))),(x4,(v3,()))))))
 else
 none
 else
 none
 else
 none
 else
 none
 else
 some (.inr (x4,(x5,())))
abbrev wf(x0:eE):Prop:=fW [(.val aHu .f)] (x0,())
noncomputable def aR(x0:eE):Option (Unit×tG):=
 letB (jE x0) fun v1=>
 if(!v1)=true then
 some ((),(([]:List Int),()))
 else
 if(gB.pre (x0.1::(x0.2.1::((wrap .i64 (x0.2.2.1+(1:Int)))::(x0.2.2.2.1::(((length x0.2.2.2.2.1:Nat):Int)::([]:List Int)))))))=true then
 letB (yQ (x0.1::(x0.2.1::((wrap .i64 (x0.2.2.1+(1:Int)))::(x0.2.2.2.1::(((length x0.2.2.2.2.1:Nat):Int)::([]:List Int))))))) fun v2=>
 if(iK.pre5 (x0.2.2.2.2.1,(((length x0.2.2.2.2.1:Nat):Int),((0:Int),(x0,(v2,()))))))=true then
 letB (iK.fn5 (x0.2.2.2.2.1,(((length x0.2.2.2.2.1:Nat):Int),((0:Int),(x0,(v2,())))))) fun v3=>
 if(eX.pre v3.1.2.2.2.2.2.1)=true then
 letB (qY v3.1.2.2.2.2.2.1) fun v4=>
 if(decide (length v3.2.1+length v4<=lT))=true then
 if(gB.pre (((length (List.append v3.2.1 v4):Nat):Int)::([]:List Int)))=true then
 if(decide ((0:Int)<=(8:Int)))=true then
 if(decide ((0:Int)<=(16:Int)))=true then
 if(decide ((0:Int)<=(24:Int)))=true then
 letB (yQ (((length (List.append v3.2.1 v4):Nat):Int)::([]:List Int))) fun v5=>
 letB (wY (List.append v3.2.1 v4)) fun v6=>
 if(aY.pre (v5::((List.append v3.2.1 v4)::(((wrap .u8 v6)::((wrap .u8 (Int.fdiv v6 (2^min (Int.toNat (8:Int)) (IntKind.bits .i64))))::((wrap .u8 (Int.fdiv v6 (2^min (Int.toNat (16:Int)) (IntKind.bits .i64))))::((wrap .u8 (Int.fdiv v6 (2^min (Int.toNat (24:Int)) (IntKind.bits .i64))))::([]:List Int)))))::([]:List (List Int))))))=true then
 letB (aY (v5::((List.append v3.2.1 v4)::(((wrap .u8 v6)::((wrap .u8 (Int.fdiv v6 (2^min (Int.toNat (8:Int)) (IntKind.bits .i64))))::((wrap .u8 (Int.fdiv v6 (2^min (Int.toNat (16:Int)) (IntKind.bits .i64))))::((wrap .u8 (Int.fdiv v6 (2^min (Int.toNat (24:Int)) (IntKind.bits .i64))))::([]:List Int)))))::([]:List (List Int)))))) fun v7=>
 some ((),(v7,()))
 else
 none
 else
 none
 else
 none
 else
 none
 else
 none
 else
 none
 else
 none
 else
 none
 else
 none
theorem ok5(x1:List aL)(x2 x3:Int)(x4:eE)(x5:List Int)(hp:pre5 (x1,(x2,(x3,(x4,(x5,())))))=true):Rounds pre5 mu5 fn5 (x1,(x2,(x3,(x4,(x5,()))))) (tX x1 x2 x3 x4 x5):=by
 simp only[pre5,Zb,Za] at hp
 obtain⟨h1,rfl,h2,h3,h4⟩:=hp
 unfold tX
 by_cases hlt:x3<(x1.length:Int)
 . have hn:x3.toNat<x1.length:=by omega
   have e1:=Zn hn
   have h5:=nE (x1[x3.toNat]).1
   have h6:=aBQ (x1[x3.toNat]).2.1
   simp only[letB]
   rw[if_pos (by simp[hlt]),if_pos (by simp[h2]),if_pos (by simp[hlt]),eV hn,if_pos (show gB.pre _=true by simp[gB.pre,aCk,dI]),
    if_pos (show aY.pre _=true by simp[aY.pre,dI,yQ];omega),iV (n:=x3+1) (by omega) (by omega)]
   simp only[Rounds]
   have hc:aY [x5,yQ [(x1[x3.toNat]).1],rK (x1[x3.toNat]).2.1]=x5++aKR x1[x3.toNat]:=by simp[aY,yQ,aKR]
   rw[hc]
   refine⟨?_,by simp only[mu5];omega,?_⟩
   . simp only[pre5,Zb,Za,Zf,aKR];exact⟨h1,trivial,by omega,by omega,by omega⟩
   . simp only[fn5,show(x3+1).toNat=x3.toNat+1 by omega,e1,aDu,List.flatMap_cons,Zk]
 . rw[if_neg (by simp[hlt])]
   simp only[Rounds,fn5]
   rw[Zt (by omega)]
   simp[aDu]
theorem eq(x0:eE)(_:wf x0):aR x0=some ((),(iK x0,())):=by
 unfold aR
 simp only[letB]
 by_cases h:jE x0=true
 case neg=>
  rw[if_pos (by simp[h])]
  unfold iK sC
  rw[if_neg h]
 have hl:=wR h
 have hb:=aMe hl
 have hp:=nE ((mG x0).length:Int)
 have hh:=aG8 x0
 have hn:yQ [x0.1,x0.2.1,wrap .i64 (x0.2.2.1+1),x0.2.2.2.1,(x0.2.2.2.2.1.length:Int)]=aBi x0:=by simp[yQ,aBi]
 have hf:fn5 (x0.2.2.2.2.1,((x0.2.2.2.2.1.length:Int),((0:Int),(x0,(aBi x0,())))))=(x0,(aBi x0++aDu x0.2.2.2.2.1,())):=rfl
 have hbd:List.append (aBi x0++aDu x0.2.2.2.2.1) (qY x0.2.2.2.2.2.1)=mG x0:=rfl
 have he:(aBi x0++aDu x0.2.2.2.2.1).length+(qY x0.2.2.2.2.2.1).length<=40000:=by
  simp only[mG,Zf] at hb;simp only[Zf];omega
 rw[if_neg (by simp[h]),if_pos (show gB.pre _=true by simp[gB.pre,aCk,dI]),hn,
  if_pos (show pre5 _=true by simp only[pre5,Zb,Za];exact⟨hl.1,trivial,by omega,by omega,by omega⟩),hf]
 simp only[hbd]
 rw[if_pos (show eX.pre _=true by simp[eX.pre,aEE];omega),if_pos (by simp only[Za,lT];omega),if_pos (show gB.pre _=true by simp[gB.pre,aCk,dI]),
  if_pos (by decide),if_pos (by decide),if_pos (by decide),if_pos (show aY.pre _=true by simp[aY.pre,dI,yQ];omega)]
 unfold iK sC
 rw[if_pos h]
 simp[aY,yQ,aHe]
end iK
theorem aMU{n:Nat}(h:n<=127):aGH n=[(n:Int)]:=by
 rw[aGH,aEJ,if_pos h,aFp,if_pos h];rfl
theorem aMt{n:Nat}(h:¬n<=127):aGH n=((n%128+128:Nat):Int)::aGH (n/128):=by
 rw[aGH,aEJ,if_neg h,aFp,if_neg h];rfl
theorem aBP{a:Int}{r:List Int}(h:bQ (a::r)=true):0<=a/\a<=255/\bQ r=true:=by
 simp only[bQ,List.all_cons,Zb,Za] at h
 exact⟨h.1.1,h.1.2,h.2⟩
theorem aBT{b:List Int}(h:bQ b=true)(n:Nat):bQ (b.drop n)=true:=
 Zu.2 fun _ hx=>Zu.1 h _ (List.mem_of_mem_drop hx)
theorem aGI{b:List Int}(h:bQ b=true)(n:Nat):bQ (b.take n)=true:=
 Zu.2 fun _ hx=>Zu.1 h _ (List.mem_of_mem_take hx)
theorem yL{b:List Int}(h:bQ b=true)(n m:Nat):bQ (bE n m b)=true:=aGI (aBT h _) _
theorem aLE:(f k:Nat)->(l:List Int)->(acc n:Int)->(c:Nat)->bQ l=true->gn (some none) f k l acc=some (some (n,c))->
 ∃m:Nat,n=acc+m*128^k/\k<c/\c<=k+l.length/\l.take (c-k)=aGH m/\(0<k->0<m)/\n<=2147483647
 |0,_,_,_,_,_,_,h=>by cases h
 |_+1,_,[],_,_,_,_,h=>by cases h
 |f+1,k,a::r,acc,n,c,hb,h=>by
  obtain⟨h0,h1,hr⟩:=aBP hb
  simp only[gn] at h
  by_cases hs:a<128
  . rw[if_pos hs] at h
    by_cases hz:0<k/\a=0
    . rw[if_pos hz] at h;cases h
    rw[if_neg hz] at h
    by_cases hg:2147483647<acc+a%128*128^k
    . rw[if_pos hg] at h;cases h
    rw[if_neg hg] at h
    cases h
    have ha:a%128=a:=by omega
    have hat:((a.toNat:Nat):Int)=a:=by omega
    refine⟨a.toNat,by rw[hat,ha],by omega,by simp,?_,by omega,by omega⟩
    rw[aMU (by omega),show k+1-k=1 by omega,hat];rfl
  . rw[if_neg hs] at h
    obtain⟨m,e1,e2,e3,e4,e5,e6⟩:=aLE f (k+1) r _ n c hr h
    have hm:=e5 (by omega)
    refine⟨(a%128).toNat+128*m,?_,by omega,by rw[Zg];omega,?_,by omega,e6⟩
    . have:(((a%128).toNat+128*m:Nat):Int)=a%128+m*128:=by omega
      rw[e1,this,Int.add_mul,Int.pow_succ,Int.mul_assoc,Int.mul_comm (128^k) 128,Int.add_assoc]
    . rw[aMt (by omega),show c-k=(c-(k+1))+1 by omega,List.take_succ_cons,e4,show((a%128).toNat+128*m)/128=m by omega]
      congr 1
      omega
theorem nG{b:List Int}{i:Int}(hb:bQ b=true)(h:(dM b i).2.2=true):
 0<=i/\0<=(dM b i).1/\(dM b i).1<=2147483647/\i<(dM b i).2.1/\(dM b i).2.1<=(b.length:Int)/\bE i.toNat (dM b i).2.1.toNat b=pD (dM b i).1:=by
 unfold dM at *
 by_cases hi:i<0
 . rw[if_pos hi] at h;cases h
 rw[if_neg hi] at *
 generalize hg:gn (some none) 5 0 (b.drop i.toNat) 0=r at *
 match r with
 |none=>cases h
 |some none=>cases h
 |some (some (n,c))=>
  obtain⟨m,e1,e2,e3,e4,_,e6⟩:=aLE 5 0 _ 0 n c (aBT hb _) hg
  simp only[aCj]
  have e1':n=(m:Int):=by rw[e1];simp
  have hl:c<=b.length-i.toNat:=by simpa using e3
  refine⟨by omega,by omega,e6,by omega,by omega,?_⟩
  rw[bE,show(i+(c:Int)).toNat-i.toNat=c-0 by omega,e4,pD,if_pos (by omega),show n.toNat=m by omega]
theorem aG3{b:List Int}{i:Int}(hb:bQ b=true):0<=(dM b i).1/\(dM b i).1<=2147483647:=by
 by_cases h:(dM b i).2.2=true
 . have:=nG hb h
   omega
 . unfold dM at *
   split
   . decide
   . rename_i hi
     rw[if_neg hi] at h
     generalize gn (some none) 5 0 (b.drop i.toNat) 0=r at *
     match r with
     |none=>simp[aCj]
     |some none=>simp[aCj]
     |some (some (n,c))=>exact absurd rfl h
theorem aDP{b:List Int}{i:Int}(hb:bQ b=true):0<=(bW b i).1/\(bW b i).1<=2147483647:=by
 unfold bW
 split
 . decide
 . exact aG3 hb
theorem aAe{b:List Int}{i:Int}(h:(bW b i).2.2=true):bW b i=dM b i:=by
 unfold bW at *
 split
 . rename_i hi;rw[if_pos hi] at h;cases h
 . rfl
theorem wI{b:List Int}{i:Int}(hb:b.length<=9223372036854775802):bW b i=dM b i:=by
 unfold bW
 split
 . unfold dM
   rw[if_neg (by omega),Zt (by omega)];rfl
 . rfl
def aDo(b:List Int)(v:Int×(Int×Bool)):List UInt8×(Int×Bool):=
 if v.2.2=true then
  if(b.length:Int)-v.2.1<v.1 then([],(0,false))
  else(kX (bE v.2.1.toNat (v.2.1+v.1).toNat b),(v.2.1+v.1,true))
 else([],(0,false))
def iE(b:List Int)(i:Int):List UInt8×(Int×Bool):=aDo b (dM b i)
def iD(b:List Int)(i:Int):List UInt8×(Int×Bool):=aDo b (bW b i)
namespace iE
abbrev wf(x0:(List Int))(x1:Int):Prop:=fW [(.val wM .f),(.val (.int .i64) .f)] (x0,(x1,()))
noncomputable def aR(x0:(List Int))(x1:Int):Option (Unit×((List UInt8)×aDq)):=
 letB (dM x0 x1) fun v1=>
 if(!v1.2.2)=true then
 some ((),(([]:List UInt8),tH))
 else
 if(decide ((wrap .i64 (((length x0:Nat):Int)-v1.2.1))<v1.1))=true then
 some ((),(([]:List UInt8),tH))
 else
 if(decide ((0:Int)<=v1.2.1))=true then
 if(decide (v1.2.1<=(wrap .i64 (v1.2.1+v1.1))))=true then
 if(decide ((wrap .i64 (v1.2.1+v1.1))<=((length x0:Nat):Int)))=true then
 some ((),((kX (bE (Int.toNat v1.2.1) (Int.toNat (wrap .i64 (v1.2.1+v1.1))) x0)),((wrap .i64 (v1.2.1+v1.1)),(true,()))))
 else
 none
 else
 none
 else
 none
theorem eq(x0:List Int)(x1:Int)(hw:wf x0 x1):aR x0 x1=some ((),((iE x0 x1).1,((iE x0 x1).2.1,((iE x0 x1).2.2,())))):=by
 have h1:x0.length<=maxLen:=hw.1.1
 have hM:=lH
 have hb:bQ x0=true:=gN hw.1.2
 unfold aR iE aDo
 simp only[letB]
 by_cases h:(dM x0 x1).2.2=true
 case neg=>rw[if_pos (by simp[h]),if_neg h]
 obtain⟨g0,g1,g2,g3,g4,_⟩:=nG hb h
 rw[if_neg (by simp[h]),if_pos h,iV (n:=(x0.length:Int)-_) (by omega) (by omega)]
 by_cases hl:(x0.length:Int)-(dM x0 x1).2.1<(dM x0 x1).1
 . rw[if_pos (by simp[hl]),if_pos hl]
 . rw[if_neg (by simp only[Za];exact hl),if_neg hl,iV (n:=(dM x0 x1).2.1+_) (by omega) (by omega),if_pos (by simp only[Za];omega),if_pos (by simp only[Za];omega),if_pos (by simp only[Za];omega)]
end iE
namespace iD
abbrev wf(x0:(List Int))(x1:Int):Prop:=fW [(.val wM .f),(.val (.int .i64) .f)] (x0,(x1,()))
noncomputable def aR(x0:(List Int))(x1:Int):Option (Unit×((List UInt8)×aDq)):=
 letB (bW x0 x1) fun v1=>
 if(!v1.2.2)=true then
 some ((),(([]:List UInt8),tH))
 else
 if(decide ((wrap .i64 (((length x0:Nat):Int)-v1.2.1))<v1.1))=true then
 some ((),(([]:List UInt8),tH))
 else
 if(decide ((0:Int)<=v1.2.1))=true then
 if(decide (v1.2.1<=(wrap .i64 (v1.2.1+v1.1))))=true then
 if(decide ((wrap .i64 (v1.2.1+v1.1))<=((length x0:Nat):Int)))=true then
 some ((),((kX (bE (Int.toNat v1.2.1) (Int.toNat (wrap .i64 (v1.2.1+v1.1))) x0)),((wrap .i64 (v1.2.1+v1.1)),(true,()))))
 else
 none
 else
 none
 else
 none
theorem eq(x0:List Int)(x1:Int)(hw:wf x0 x1):aR x0 x1=some ((),((iD x0 x1).1,((iD x0 x1).2.1,((iD x0 x1).2.2,())))):=by
 have h1:x0.length<=maxLen:=hw.1.1
 have hM:=lH
 have hb:bQ x0=true:=gN hw.1.2
 unfold aR iD aDo
 simp only[letB]
 by_cases h:(bW x0 x1).2.2=true
 case neg=>rw[if_pos (by simp[h]),if_neg h]
 have hg:=aAe h
 rw[hg] at h ⊢
 obtain⟨g0,g1,g2,g3,g4,_⟩:=nG hb h
 rw[if_neg (by simp[h]),if_pos h,iV (n:=(x0.length:Int)-_) (by omega) (by omega)]
 by_cases hl:(x0.length:Int)-(dM x0 x1).2.1<(dM x0 x1).1
 . rw[if_pos (by simp[hl]),if_pos hl]
 . rw[if_neg (by simp only[Za];exact hl),if_neg hl,iV (n:=(dM x0 x1).2.1+_) (by omega) (by omega),if_pos (by simp only[Za];omega),if_pos (by simp only[Za];omega),if_pos (by simp only[Za];omega)]
end iD
abbrev R:=List Int×aDq
abbrev GN:=List Int->Int->Int×(Int×Bool)
def aEo(g:GN)(good:Bool)(s:R):R×Int:=
 if s.2.2.1=good/\(g s.1 s.2.1).2.2=true then((s.1,((g s.1 s.2.1).2.1,(good,()))),(g s.1 s.2.1).1) else((s.1,(s.2.1,(!good,()))),0)
def aDG(g:GN)(good:Bool)(s:R):R×List UInt8:=
 if s.2.2.1=good/\(aDo s.1 (g s.1 s.2.1)).2.2=true then((s.1,((aDo s.1 (g s.1 s.2.1)).2.1,(good,()))),(aDo s.1 (g s.1 s.2.1)).1) else((s.1,(s.2.1,(!good,()))),[])
def aFh(num:R->R×Int)(txt:R->R×List UInt8)(s:R):R×Cmd:=
 letB (num s) fun v1=>letB (num v1.1) fun v2=>letB (num v2.1) fun v3=>letB (num v3.1) fun v4=>letB (num v4.1) fun v5=>letB (num v5.1) fun v6=>letB (txt v6.1) fun v7=>letB (txt v7.1) fun v8=>
 (v8.1,(wrap .i64 (v1.2-1),(v2.2,(v3.2,(v4.2,(v5.2,(v6.2,(v7.2,(v8.2,())))))))))
def aA(s:R):R×Int:=aEo dM true s
def aP(s:R):R×List UInt8:=aDG dM true s
def bL(s:R):R×Cmd:=aFh aA aP s
def aC(s:R):R×Int:=aEo bW false s
def aV(s:R):R×List UInt8:=aDG bW false s
def eQ(s:R):R×Cmd:=
 letB (aFh aC aV s) fun p=>if p.1.2.2.1=true then((p.1.1,(p.1.2.1,(true,()))),p.2) else((p.1.1,(p.1.2.1,(!pE p.2,()))),p.2)
namespace aA
abbrev wf(x0:jT):Prop:=fW [(.ref oS .f)] (x0,())
noncomputable def aR(x0:jT):Option ((jT×Unit)×(Int×Unit)):=
 letB (dM x0.1 x0.2.1) fun v1=>
 if(!v1.2.2)=true then
 some (((x0.1,(x0.2.1,(false,x0.2.2.2))),()),((0:Int),()))
 else
 if(!x0.2.2.1)=true then
 some (((x0.1,(x0.2.1,(false,x0.2.2.2))),()),((0:Int),()))
 else
 some (((x0.1,(v1.2.1,x0.2.2)),()),(v1.1,()))
theorem eq(x0:R)(_:wf x0):aR x0=some (((aA x0).1,()),((aA x0).2,())):=by
 obtain⟨b,i,f,_⟩:=x0
 unfold aR aA aEo
 simp only[letB]
 cases hg:(dM b i).2.2<;>cases f<;>simp
end aA
namespace aP
abbrev wf(x0:jT):Prop:=fW [(.ref oS .f)] (x0,())
noncomputable def aR(x0:jT):Option ((jT×Unit)×aCu):=
 letB (iE x0.1 x0.2.1) fun v1=>
 if(!v1.2.2)=true then
 some (((x0.1,(x0.2.1,(false,x0.2.2.2))),()),(([]:List UInt8),()))
 else
 if(!x0.2.2.1)=true then
 some (((x0.1,(x0.2.1,(false,x0.2.2.2))),()),(([]:List UInt8),()))
 else
 some (((x0.1,(v1.2.1,x0.2.2)),()),(v1.1,()))
theorem eq(x0:R)(_:wf x0):aR x0=some (((aP x0).1,()),((aP x0).2,())):=by
 obtain⟨b,i,f,_⟩:=x0
 unfold aR aP aDG iE
 simp only[letB]
 cases hg:(aDo b (dM b i)).2.2<;>cases f<;>simp
end aP
namespace aC
abbrev wf(x0:jT):Prop:=fW [(.ref oS .f)] (x0,())
noncomputable def aR(x0:jT):Option ((jT×Unit)×(Int×Unit)):=
 if x0.2.2.1=true then
 some (((x0.1,(x0.2.1,(true,x0.2.2.2))),()),((0:Int),()))
 else
 letB (bW x0.1 x0.2.1) fun v1=>
 if(!v1.2.2)=true then
 some (((x0.1,(x0.2.1,(true,x0.2.2.2))),()),((0:Int),()))
 else
 some (((x0.1,(v1.2.1,x0.2.2)),()),(v1.1,()))
theorem eq(x0:R)(_:wf x0):aR x0=some (((aC x0).1,()),((aC x0).2,())):=by
 obtain⟨b,i,f,_⟩:=x0
 unfold aR aC aEo
 simp only[letB]
 cases hg:(bW b i).2.2<;>cases f<;>simp
end aC
namespace aV
abbrev wf(x0:jT):Prop:=fW [(.ref oS .f)] (x0,())
noncomputable def aR(x0:jT):Option ((jT×Unit)×aCu):=
 if x0.2.2.1=true then
 some (((x0.1,(x0.2.1,(true,x0.2.2.2))),()),(([]:List UInt8),()))
 else
 letB (iD x0.1 x0.2.1) fun v1=>
 if(!v1.2.2)=true then
 some (((x0.1,(x0.2.1,(true,x0.2.2.2))),()),(([]:List UInt8),()))
 else
 some (((x0.1,(v1.2.1,x0.2.2)),()),(v1.1,()))
theorem eq(x0:R)(_:wf x0):aR x0=some (((aV x0).1,()),((aV x0).2,())):=by
 obtain⟨b,i,f,_⟩:=x0
 unfold aR aV aDG iD
 simp only[letB]
 cases hg:(aDo b (bW b i)).2.2<;>cases f<;>simp
end aV
namespace bL
abbrev wf(x0:jT):Prop:=fW [(.ref oS .f)] (x0,())
noncomputable def aR(x0:jT):Option ((jT×Unit)×(Cmd×Unit)):=
 letB (aA x0) fun v1=>
 letB (aA v1.1) fun v2=>
 letB (aA v2.1) fun v3=>
 letB (aA v3.1) fun v4=>
 letB (aA v4.1) fun v5=>
 letB (aA v5.1) fun v6=>
 letB (aP v6.1) fun v7=>
 letB (aP v7.1) fun v8=>
 some ((v8.1,()),(((wrap .i64 (v1.2-(1:Int))),(v2.2,(v3.2,(v4.2,(v5.2,(v6.2,(v7.2,(v8.2,())))))))),()))
theorem eq(x0:R)(_:wf x0):aR x0=some (((bL x0).1,()),((bL x0).2,())):=by
 unfold aR bL aFh
 simp only[letB]
end bL
namespace eQ
abbrev wf(x0:jT):Prop:=fW [(.ref oS .f)] (x0,())
noncomputable def aR(x0:jT):Option ((jT×Unit)×(Cmd×Unit)):=
 letB (aC x0) fun v1=>
 letB (aC v1.1) fun v2=>
 letB (aC v2.1) fun v3=>
 letB (aC v3.1) fun v4=>
 letB (aC v4.1) fun v5=>
 letB (aC v5.1) fun v6=>
 letB (aV v6.1) fun v7=>
 letB (aV v7.1) fun v8=>
 if v8.1.2.2.1=true then
 some (((v8.1.1,(v8.1.2.1,(true,v8.1.2.2.2))),()),(((wrap .i64 (v1.2-(1:Int))),(v2.2,(v3.2,(v4.2,(v5.2,(v6.2,(v7.2,(v8.2,())))))))),()))
 else
 letB (pE ((wrap .i64 (v1.2-(1:Int))),(v2.2,(v3.2,(v4.2,(v5.2,(v6.2,(v7.2,(v8.2,()))))))))) fun v9=>
 some (((v8.1.1,(v8.1.2.1,((!v9),v8.1.2.2.2))),()),(((wrap .i64 (v1.2-(1:Int))),(v2.2,(v3.2,(v4.2,(v5.2,(v6.2,(v7.2,(v8.2,())))))))),()))
theorem eq(x0:R)(_:wf x0):aR x0=some (((eQ x0).1,()),((eQ x0).2,())):=by
 unfold aR eQ aFh
 simp only[letB]
 split
 . rename_i hf;simp only[hf,if_true]
 . rename_i hf;simp only[hf,if_false,Zj]
end eQ
def mT(num:R->R×Int)(cmd:R->R×Cmd)(good:Bool):Nat->R->List aL->R×List aL
 |0,s,xs=>(s,xs)
 |n+1,s,xs=>if s.2.2.1=good then mT num cmd good n (cmd (num s).1).1 (xs++[((num s).2,((cmd (num s).1).2,()))]) else(s,xs)
def aFW(num:R->R×Int)(txt:R->R×List UInt8)(cmd:R->R×Cmd)(good:Bool)(s:R):R×eE:=
 letB (num s) fun v1=>letB (num v1.1) fun v2=>letB (num v2.1) fun v3=>letB (num v3.1) fun v4=>letB (num v4.1) fun v5=>
 letB (mT num cmd good v5.2.toNat v5.1 []) fun v6=>letB (txt v6.1) fun v7=>
 (v7.1,(v1.2,(v2.2,(wrap .i64 (v3.2-1),(v4.2,(v6.2,(v7.2,())))))))
def cZ(s:R):R×eE:=aFW aA aP bL true s
theorem aO5(g:GN)(good:Bool)(s:R):(aEo g good s).1.1=s.1:=by unfold aEo;split<;>rfl
theorem cI(s:R):(aA s).1.1=s.1:=aO5 _ _ s
theorem kF{s:R}(hb:bQ s.1=true):0<=(aA s).2/\(aA s).2<=2147483647:=by
 unfold aA aEo
 split
 . exact aG3 hb
 . simp only;decide
theorem oO{s:R}(hb:bQ s.1=true):0<=(aC s).2/\(aC s).2<=2147483647:=by
 unfold aC aEo
 split
 . exact aDP hb
 . simp only;decide
namespace cZ
def pre(_:R):Bool:=true
abbrev T:=Int×(Int×(Int×(Int×(aCu×((List aL)×aJ9)))))
abbrev S:=Int×(Int×(R×T))
def pre8:S->Bool:=fun s=>decide (s.1<=2147483647)&&(decide (0<=s.2.1)&&decide ((s.2.2.2.2.2.2.2.2.2.2.2.2.2.2.1.length:Int)<=s.2.1))
def fn8:S->R×T:=fun(n,i,r,x4,x5,x6,x7,x8,x9,x10,x11,x12,x13,x14,x15,_)=>
 ((mT aA bL true (n-i).toNat r x15).1,(x4,(x5,(x6,(x7,(x8,(x9,(x10,(x11,(x12,(x13,(x14,((mT aA bL true (n-i).toNat r x15).2,())))))))))))))
def mu8:S->Nat:=fun s=>(s.1-s.2.1).toNat
noncomputable def aJ4(x1:Int)(x2:Int)(x3:jT)(x4:Int)(x5:Int)(x6:Int)(x7:Int)(x8:aCu)(x9:(List aL))(x10:Int)(x11:Int)(x12:Int)(x13:Int)(x14:aCu)(x15:(List aL)):Option ((Int×(Int×(jT×(Int×(Int×(Int×(Int×(aCu×((List aL)×aJ9)))))))))⊕(jT×(Int×(Int×(Int×(Int×(aCu×((List aL)×aJ9)))))))):=
 if(decide (x2<x1))=true then
 if x3.2.2.1=true then
 letB (aA x3) fun v1=>
 letB (bL v1.1) fun v2=>
 if(decide (length x15+length ((v1.2,(v2.2,()))::([]:List aL))<=lT))=true then
 some (.inl (x1,((wrap .i64 (x2+(1:Int))),(v2.1,(x4,(x5,(x6,(x7,(x8,(x9,(x10,(x11,(x12,(x13,(x14,((List.append x15 ((v1.2,(v2.2,()))::([]:List aL))),()))))))))))))))))
 else
 none
 else
 some (.inr (x3,(x4,(x5,(x6,(x7,(x8,(x9,(x10,(x11,(x12,(x13,(x14,(x15,()))))))))))))))
 else
 some (.inr (x3,(x4,(x5,(x6,(x7,(x8,(x9,(x10,(x11,(x12,(x13,(x14,(x15,()))))))))))))))
abbrev wf(x0:jT):Prop:=fW [(.ref oS .f)] (x0,())
noncomputable def aR(x0:jT):Option ((jT×Unit)×(eE×Unit)):=
 letB (aA x0) fun v1=>
 letB (aA v1.1) fun v2=>
 letB (aA v2.1) fun v3=>
 letB (aA v3.1) fun v4=>
 letB (aA v4.1) fun v5=>
 if(cZ.pre8 (v5.2,((0:Int),(v5.1,((0:Int),((0:Int),((0:Int),((0:Int),((([]:List UInt8),()),(([]:List aL),(v1.2,(v2.2,((wrap .i64 (v3.2-(1:Int))),(v4.2,((([]:List UInt8),()),(([]:List aL),()))))))))))))))))=true then
 letB (cZ.fn8 (v5.2,((0:Int),(v5.1,((0:Int),((0:Int),((0:Int),((0:Int),((([]:List UInt8),()),(([]:List aL),(v1.2,(v2.2,((wrap .i64 (v3.2-(1:Int))),(v4.2,((([]:List UInt8),()),(([]:List aL),())))))))))))))))) fun v6=>
 letB (aP v6.1) fun v7=>
 some ((v7.1,()),((v6.2.2.2.2.2.2.2.1,(v6.2.2.2.2.2.2.2.2.1,(v6.2.2.2.2.2.2.2.2.2.1,(v6.2.2.2.2.2.2.2.2.2.2.1,(v6.2.2.2.2.2.2.2.2.2.2.2.2.1,(v7.2,v6.2.2.2.2.2.2.2.2.2.2.2.1.2)))))),()))
 else
 none
theorem ok8(x1 x2:Int)(x3:R)(x4 x5 x6 x7:Int)(x8:(List UInt8)×Unit)(x9:List aL)(x10 x11 x12 x13:Int)(x14:(List UInt8)×Unit)(x15:List aL)
 (hp:pre8 (x1,(x2,(x3,(x4,(x5,(x6,(x7,(x8,(x9,(x10,(x11,(x12,(x13,(x14,(x15,())))))))))))))))=true):
 Rounds pre8 mu8 fn8 (x1,(x2,(x3,(x4,(x5,(x6,(x7,(x8,(x9,(x10,(x11,(x12,(x13,(x14,(x15,()))))))))))))))) (aJ4 x1 x2 x3 x4 x5 x6 x7 x8 x9 x10 x11 x12 x13 x14 x15):=by
 simp only[pre8,Zb,Za] at hp
 obtain⟨h1,h2,h3⟩:=hp
 unfold aJ4
 simp only[letB]
 by_cases hlt:x2<x1
 . have hs:(x1-x2).toNat=(x1-(x2+1)).toNat+1:=by omega
   rw[if_pos (by simp[hlt])]
   by_cases hf:x3.2.2.1=true
   . rw[if_pos hf,if_pos (by simp only[Za,lT,Zg,Zh];omega),iV (n:=x2+1) (by omega) (by omega)]
     simp only[Rounds]
     refine⟨?_,by simp only[mu8];omega,?_⟩
     . simp only[pre8,Zb,Za,List.append_eq,Zf,Zg,Zh];omega
     . simp only[fn8,hs,mT,if_pos hf,List.append_eq]
   . rw[if_neg hf]
     simp only[Rounds,fn8,hs,mT,if_neg hf]
 . rw[if_neg (by simp[hlt])]
   simp only[Rounds,fn8]
   rw[show(x1-x2).toNat=0 by omega]
   rfl
theorem eq(x0:R)(hw:wf x0)(_:pre x0=true):aR x0=some (((cZ x0).1,()),((cZ x0).2,())):=by
 have hb:bQ x0.1=true:=gN hw.1.1.2
 unfold aR cZ aFW
 simp only[letB]
 have h5:bQ (aA (aA (aA (aA x0).1).1).1).1.1=true:=by simp only[cI];exact hb
 have hn:=kF h5
 rw[if_pos (show pre8 _=true by simp only[pre8,Zb,Za,Zh];omega)]
 simp only[fn8,Int.sub_zero]
end cZ
def fK(s:R)(r:eE):R×eE:=
 ((eQ (aC s).1).1,(r.1,(r.2.1,(r.2.2.1,(r.2.2.2.1,(r.2.2.2.2.1++[((aC s).2,((eQ (aC s).1).2,()))],r.2.2.2.2.2))))))
namespace fK
def pre(_:R)(r:eE):Bool:=decide (r.2.2.2.2.1.length<=4000000000)
abbrev wf(x0:jT)(x1:eE):Prop:=fW [(.cell 1 oS),(.ref oS .f),(.ref aHu .o)] (x0,(x1,()))
noncomputable def aR(x0:jT)(x1:eE):Option ((jT×(eE×Unit))×Unit):=
 letB (aC x0) fun v1=>
 letB (eQ v1.1) fun v2=>
 if(decide (length x1.2.2.2.2.1+length ((v1.2,(v2.2,()))::([]:List aL))<=lT))=true then
 some ((v2.1,((x1.1,(x1.2.1,(x1.2.2.1,(x1.2.2.2.1,((List.append x1.2.2.2.2.1 ((v1.2,(v2.2,()))::([]:List aL))),x1.2.2.2.2.2))))),())),())
 else
 none
theorem eq(x0:R)(x1:eE)(_:wf x0 x1)(hp:pre x0 x1=true):aR x0 x1=some (((fK x0 x1).1,((fK x0 x1).2,())),()):=by
 simp only[pre,Za] at hp
 unfold aR
 simp only[letB]
 rw[if_pos (by simp only[Za,lT,Zg,Zh];omega)]
 rfl
end fK
def fB(s:R)(r:eE):R×eE:=
 letB (aC s) fun v1=>letB (mT aC eQ false v1.2.toNat v1.1 r.2.2.2.2.1) fun v2=>
 (v2.1,(r.1,(r.2.1,(r.2.2.1,(r.2.2.2.1,(v2.2,r.2.2.2.2.2))))))
namespace fB
def pre(_:R)(r:eE):Bool:=decide (r.2.2.2.2.1.length<=1000)
abbrev S:=Int×(Int×(R×aJ9))
def pre2:S->Bool:=fun s=>decide (s.1<=2147483647)&&(decide (0<=s.2.1)&&decide ((s.2.2.2.2.2.2.2.2.1.length:Int)<=s.2.1+1000))
def fn2:S->R×aJ9:=fun(n,i,r,x4,x5,x6,x7,x8,x9,_)=>
 ((mT aC eQ false (n-i).toNat r x9).1,(x4,(x5,(x6,(x7,(x8,((mT aC eQ false (n-i).toNat r x9).2,())))))))
def kY:S->Nat:=fun s=>(s.1-s.2.1).toNat
noncomputable def cW(x1:Int)(x2:Int)(x3:jT)(x4:Int)(x5:Int)(x6:Int)(x7:Int)(x8:aCu)(x9:(List aL)):Option ((Int×(Int×(jT×aJ9)))⊕(jT×aJ9)):=
 if(decide (x2<x1))=true then
 if(!x3.2.2.1)=true then
 if(fK.pre x3 (x4,(x5,(x6,(x7,(x9,x8))))))=true then
 letB (fK x3 (x4,(x5,(x6,(x7,(x9,x8)))))) fun v1=>
 some (.inl (x1,((wrap .i64 (x2+(1:Int))),(v1.1,(v1.2.1,(v1.2.2.1,(v1.2.2.2.1,(v1.2.2.2.2.1,(v1.2.2.2.2.2.2,(v1.2.2.2.2.2.1,()))))))))))
 else
 none
 else
 some (.inr (x3,(x4,(x5,(x6,(x7,(x8,(x9,()))))))))
 else
 some (.inr (x3,(x4,(x5,(x6,(x7,(x8,(x9,()))))))))
abbrev wf(x0:jT)(x1:eE):Prop:=fW [(.ref oS .f),(.cell 0 oS),(.ref aHu .o)] (x0,(x1,()))
noncomputable def aR(x0:jT)(x1:eE):Option ((jT×(eE×Unit))×Unit):=
 letB (aC x0) fun v1=>
 if(fB.pre2 (v1.2,((0:Int),(v1.1,(x1.1,(x1.2.1,(x1.2.2.1,(x1.2.2.2.1,(x1.2.2.2.2.2,(x1.2.2.2.2.1,()))))))))))=true then
 letB (fB.fn2 (v1.2,((0:Int),(v1.1,(x1.1,(x1.2.1,(x1.2.2.1,(x1.2.2.2.1,(x1.2.2.2.2.2,(x1.2.2.2.2.1,())))))))))) fun v2=>
 some ((v2.1,((v2.2.1,(v2.2.2.1,(v2.2.2.2.1,(v2.2.2.2.2.1,(v2.2.2.2.2.2.2.1,v2.2.2.2.2.2.1))))),())),())
 else
 none
theorem qO(x1 x2:Int)(x3:R)(x4 x5 x6 x7:Int)(x8:(List UInt8)×Unit)(x9:List aL)
 (hp:pre2 (x1,(x2,(x3,(x4,(x5,(x6,(x7,(x8,(x9,())))))))))=true):
 Rounds pre2 kY fn2 (x1,(x2,(x3,(x4,(x5,(x6,(x7,(x8,(x9,()))))))))) (cW x1 x2 x3 x4 x5 x6 x7 x8 x9):=by
 simp only[pre2,Zb,Za] at hp
 obtain⟨h1,h2,h3⟩:=hp
 unfold cW
 simp only[letB]
 by_cases hlt:x2<x1
 . have hs:(x1-x2).toNat=(x1-(x2+1)).toNat+1:=by omega
   rw[if_pos (by simp[hlt])]
   by_cases hf:x3.2.2.1=false
   . rw[if_pos (by simp[hf]),if_pos (show fK.pre _ _=true by simp[fK.pre];omega),iV (n:=x2+1) (by omega) (by omega)]
     simp only[Rounds]
     refine⟨?_,by simp only[kY];omega,?_⟩
     . simp only[pre2,fK,Zb,Za,Zf,Zg,Zh];omega
     . simp only[fn2,fK,hs,mT,if_pos hf]
   . rw[if_neg (by simpa using hf)]
     simp only[Rounds,fn2,hs,mT,if_neg hf]
 . rw[if_neg (by simp[hlt])]
   simp only[Rounds,fn2]
   rw[show(x1-x2).toNat=0 by omega]
   rfl
theorem eq(x0:R)(x1:eE)(hw:wf x0 x1)(hp:pre x0 x1=true):aR x0 x1=some (((fB x0 x1).1,((fB x0 x1).2,())),()):=by
 have hb:bQ x0.1=true:=gN hw.1.1.2
 simp only[pre,Za] at hp
 unfold aR
 simp only[letB]
 have hn:=oO hb
 rw[if_pos (show pre2 _=true by simp only[pre2,Zb,Za];omega)]
 simp only[fn2,Int.sub_zero]
 rfl
end fB
def eqI(a b:Int):Bool:=decide (a=b)
def eC(b:List Int):eE×Bool:=
 letB (aFW aC aV eQ false (b,(0,(false,())))) fun p=>(p.2,!p.1.2.2.1&&(eqI p.1.2.1 (b.length:Int)&&jE p.2))
theorem aML(p:R)(r:eE)(n:Int):(if(!p.2.2.1)=true then
 if decide (p.2.1=n)=true then some ((),(r,(jE r,()))) else some ((),(r,(false,())))
 else some ((),(r,(false,()))))=some ((),(r,((!p.2.2.1&&(eqI p.2.1 n&&jE r)),()))):=by
 unfold eqI
 cases p.2.2.1
 . by_cases hl:p.2.1=n<;>simp[hl]
 . simp
namespace eC
def pre(_:List Int):Bool:=true
abbrev wf(x0:(List Int)):Prop:=fW [(.val wM .f)] (x0,())
noncomputable def aR(x0:(List Int)):Option (Unit×(eE×(Bool×Unit))):=
 letB (aC (x0,tH)) fun v1=>
 letB (aC v1.1) fun v2=>
 letB (aC v2.1) fun v3=>
 letB (aC v3.1) fun v4=>
 if(fB.pre v4.1 (v1.2,(v2.2,((wrap .i64 (v3.2-(1:Int))),(v4.2,(([]:List aL),(([]:List UInt8),())))))))=true then
 letB (fB v4.1 (v1.2,(v2.2,((wrap .i64 (v3.2-(1:Int))),(v4.2,(([]:List aL),(([]:List UInt8),()))))))) fun v5=>
 letB (aV v5.1) fun v6=>
 if(!v6.1.2.2.1)=true then
 if(decide (v6.1.2.1=((length x0:Nat):Int)))=true then
 letB (jE (v5.2.1,(v5.2.2.1,(v5.2.2.2.1,(v5.2.2.2.2.1,(v5.2.2.2.2.2.1,(v6.2,v5.2.2.2.2.2.2.2))))))) fun v7=>
 some ((),((v5.2.1,(v5.2.2.1,(v5.2.2.2.1,(v5.2.2.2.2.1,(v5.2.2.2.2.2.1,(v6.2,v5.2.2.2.2.2.2.2)))))),(v7,())))
 else
 some ((),((v5.2.1,(v5.2.2.1,(v5.2.2.2.1,(v5.2.2.2.2.1,(v5.2.2.2.2.2.1,(v6.2,v5.2.2.2.2.2.2.2)))))),(false,())))
 else
 some ((),((v5.2.1,(v5.2.2.1,(v5.2.2.2.1,(v5.2.2.2.2.1,(v5.2.2.2.2.2.1,(v6.2,v5.2.2.2.2.2.2.2)))))),(false,())))
 else
 none
theorem eq(x0:List Int)(_:wf x0)(_:pre x0=true):aR x0=some ((),((eC x0).1,((eC x0).2,()))):=by
 unfold aR eC aFW
 simp only[letB,fB]
 rw[if_pos (show fB.pre _ _=true by simp[fB.pre])]
 exact aML _ _ _
end eC
def Rd(s t:R)(out:List Int):Prop:=
 t.1=s.1/\(t.2.2.1=true->s.2.2.1=true/\(0<=s.2.1->s.2.1<=(s.1.length:Int)->s.2.1<=t.2.1/\t.2.1<=(s.1.length:Int)/\bE s.2.1.toNat t.2.1.toNat s.1=out))
theorem vC{b:List Int}{i j k:Nat}(h1:i<=j)(h2:j<=k):bE i j b++bE j k b=bE i k b:=by
 unfold bE
 obtain⟨m,rfl⟩:=Nat.exists_eq_add_of_le h1
 obtain⟨n,rfl⟩:=Nat.exists_eq_add_of_le h2
 rw[show i+m-i=m by omega,show i+m+n-(i+m)=n by omega,show i+m+n-i=m+n by omega,List.take_add,List.drop_drop]
theorem nV{s t u:R}{o1 o2:List Int}(h1:Rd s t o1)(h2:Rd t u o2):Rd s u (o1++o2):=by
 refine⟨h2.1.trans h1.1,fun hf=>?_⟩
 obtain⟨hf2,g2⟩:=h2.2 hf
 obtain⟨hf1,g1⟩:=h1.2 hf2
 refine⟨hf1,fun h0 hl=>?_⟩
 obtain⟨a1,a2,a3⟩:=g1 h0 hl
 rw[h1.1] at g2
 obtain⟨b1,b2,b3⟩:=g2 (by omega) a2
 refine⟨by omega,b2,?_⟩
 rw[<-a3,<-b3,vC (by omega) (by omega)]
theorem aK5(s:R):Rd s s []:=by
 refine⟨rfl,fun hf=>⟨hf,fun _ hl=>⟨Int.le_refl _,hl,?_⟩⟩⟩
 simp[bE]
theorem uP{s:R}(hb:bQ s.1=true):Rd s (aA s).1 (pD (aA s).2):=by
 refine⟨cI s,fun hf=>?_⟩
 unfold aA aEo at *
 split at hf
 . rename_i h
   rw[if_pos h]
   obtain⟨g0,g1,g2,g3,g4,g5⟩:=nG hb h.2
   exact⟨h.1,fun _ _=>⟨by simp only;omega,g4,g5⟩⟩
 . cases hf
theorem aFj{l:List Int}(h:bQ l=true):fT (kX l)=l:=by
 induction l with
 |nil=>rfl
 |cons a r ih=>
  obtain⟨h0,h1,h2⟩:=aBP h
  simp only[kX,fT,List.map_cons,List.map_map] at *
  rw[ih h2]
  congr 1
  rw[UInt8.toNat_ofNat']
  omega
theorem aJa(g:GN)(good:Bool)(s:R):(aDG g good s).1.1=s.1:=by unfold aDG;split<;>rfl
theorem aBn(s:R):(aP s).1.1=s.1:=aJa _ _ s
theorem aIW{s:R}(hb:bQ s.1=true):Rd s (aP s).1 (qY (aP s).2):=by
 refine⟨aJa _ _ s,fun hf=>?_⟩
 unfold aP aDG at *
 split at hf
 case isFalse=>cases hf
 rename_i h
 rw[if_pos h]
 obtain⟨hg,h⟩:=h
 refine⟨hg,fun h0 hl=>?_⟩
 unfold aDo at *
 by_cases hn:(dM s.1 s.2.1).2.2=true
 case neg=>rw[if_neg hn] at h;cases h
 rw[if_pos hn] at *
 obtain⟨g0,g1,g2,g3,g4,g5⟩:=nG hb hn
 by_cases hs:(s.1.length:Int)-(dM s.1 s.2.1).2.1<(dM s.1 s.2.1).1
 . rw[if_pos hs] at h;cases h
 rw[if_neg hs]
 simp only
 refine⟨by omega,by omega,?_⟩
 rw[qY,aFj (yL hb _ _),aFH,Go.Aw.dropTake_len (by omega) (by omega),
  show((((dM s.1 s.2.1).2.1+(dM s.1 s.2.1).1).toNat-(dM s.1 s.2.1).2.1.toNat:Nat):Int)=(dM s.1 s.2.1).1 by omega,<-g5,vC (by omega) (by omega)]
theorem aNH{s:R}(hb:bQ s.1=true)(hok:pE (bL s).2=true):Rd s (bL s).1 (rK (bL s).2):=by
 unfold rK
 rw[if_pos hok]
 clear hok
 unfold bL aFh letB
 have hb1:bQ (aA s).1.1=true:=by rw[cI];exact hb
 have r1:=uP hb
 have l1:=kF hb
 have r2:=uP hb1
 have hb2:bQ (aA (aA s).1).1.1=true:=by rw[cI];exact hb1
 have r3:=uP hb2
 have hb3:bQ (aA (aA (aA s).1).1).1.1=true:=by rw[cI];exact hb2
 have r4:=uP hb3
 have hb4:bQ (aA (aA (aA (aA s).1).1).1).1.1=true:=by rw[cI];exact hb3
 have r5:=uP hb4
 have hb5:bQ (aA (aA (aA (aA (aA s).1).1).1).1).1.1=true:=by rw[cI];exact hb4
 have r6:=uP hb5
 have hb6:bQ (aA (aA (aA (aA (aA (aA s).1).1).1).1).1).1.1=true:=by rw[cI];exact hb5
 have r7:=aIW hb6
 have hb7:bQ (aP (aA (aA (aA (aA (aA (aA s).1).1).1).1).1).1).1.1=true:=by rw[aBn];exact hb6
 have r8:=aIW hb7
 have:=nV (nV (nV (nV (nV (nV (nV r1 r2) r3) r4) r5) r6) r7) r8
 simp only
 rw[iV (n:=(aA s).2-1) (by omega) (by omega),show(aA s).2-1+1=(aA s).2 by omega,iV (n:=(aA s).2) (by omega) (by omega)]
 simpa only[yQ,List.flatMap_cons,List.flatMap_nil,List.append_nil,List.append_eq,Zk] using this
theorem aNL{num:R->R×Int}{txt:R->R×List UInt8}(h1:∀s,(num s).1.1=s.1)(h2:∀s,(txt s).1.1=s.1)(s:R):(aFh num txt s).1.1=s.1:=by
 unfold aFh letB
 simp only[h1,h2]
theorem vH(s:R):(bL s).1.1=s.1:=aNL cI (aJa _ _) s
theorem aJG:(n:Nat)->(s:R)->(xs:List aL)->bQ s.1=true->
 ∃zs,(mT aA bL true n s xs).2=xs++zs/\(mT aA bL true n s xs).1.1=s.1/\
  ((∀e∈zs,pE e.2.1=true)->Rd s (mT aA bL true n s xs).1 (aDu zs)/\((mT aA bL true n s xs).1.2.2.1=true->zs.length=n))
 |0,s,xs,_=>⟨[],by simp[mT],rfl,fun _=>⟨aK5 s,fun _=>rfl⟩⟩
 |n+1,s,xs,hb=>by
  unfold mT
  by_cases hf:s.2.2.1=true
  . rw[if_pos hf]
    have hb1:bQ (aA s).1.1=true:=by rw[cI];exact hb
    have hb2:bQ (bL (aA s).1).1.1=true:=by rw[vH];exact hb1
    obtain⟨zs,e1,e2,e3⟩:=aJG n (bL (aA s).1).1 (xs++[((aA s).2,((bL (aA s).1).2,()))]) hb2
    refine⟨((aA s).2,((bL (aA s).1).2,()))::zs,by rw[e1];simp,by rw[e2,vH,cI],fun hok=>?_⟩
    obtain⟨r,l⟩:=e3 fun e he=>hok e (Zo _ he)
    have hc:=hok _ (List.mem_cons_self ..)
    refine⟨?_,fun h=>by rw[Zg,l h]⟩
    have:=nV (nV (uP hb) (aNH hb1 hc)) r
    simpa only[aDu,aKR,List.flatMap_cons,Zk] using this
  . rw[if_neg hf]
    exact⟨[],by simp,rfl,fun _=>⟨aK5 s,fun h=>absurd h hf⟩⟩
theorem aMl{xs:List aL}{t:Int}(h:gU xs t=true):∀e∈xs,pE e.2.1=true:=by
 intro e he
 simp only[gU,Zb] at h
 have:=Zu.1 h.1 e he
 simp only[eOk,Zb] at this
 exact this.2
theorem aD6{r:eE}(h:jE r=true):∀e∈r.2.2.2.2.1,pE e.2.1=true:=by
 simp only[jE,Zb] at h
 exact aMl h.2.2.1
theorem aMk{s:R}(hb:bQ s.1=true)(h:jE (cZ s).2=true):Rd s (cZ s).1 (mG (cZ s).2):=by
 have hc:=aD6 h
 clear h
 unfold mG aBi
 unfold cZ aFW letB at *
 simp only at *
 have hb1:bQ (aA s).1.1=true:=by rw[cI];exact hb
 have r1:=uP hb
 have r2:=uP hb1
 have hb2:bQ (aA (aA s).1).1.1=true:=by rw[cI];exact hb1
 have r3:=uP hb2
 have l3:=kF hb2
 have hb3:bQ (aA (aA (aA s).1).1).1.1=true:=by rw[cI];exact hb2
 have r4:=uP hb3
 have hb4:bQ (aA (aA (aA (aA s).1).1).1).1.1=true:=by rw[cI];exact hb3
 have r5:=uP hb4
 have l5:=kF hb4
 have hb5:bQ (aA (aA (aA (aA (aA s).1).1).1).1).1.1=true:=by rw[cI];exact hb4
 rw[iV (n:=_-1) (by omega) (by omega),Int.sub_add_cancel,iV (n:=(aA (aA (aA s).1).1).2) (by omega) (by omega)]
 generalize hv5:aA (aA (aA (aA (aA s).1).1).1).1=v5 at *
 obtain⟨zs,e1,e2,e3⟩:=aJG v5.2.toNat v5.1 [] hb5
 rw[List.nil_append] at e1
 rw[e1] at hc ⊢
 obtain⟨r6,l6⟩:=e3 hc
 have hb6:bQ (mT aA bL true v5.2.toNat v5.1 []).1.1=true:=by rw[e2];exact hb5
 have r7:=aIW hb6
 generalize mT aA bL true v5.2.toNat v5.1 []=v6 at *
 have hall:=nV (nV (nV (nV (nV (nV r1 r2) r3) r4) r5) r6) r7
 refine⟨hall.1,fun hf=>?_⟩
 have hz:(zs.length:Int)=v5.2:=by
  have:=l6 (r7.2 hf).1
  omega
 have:=hall.2 hf
 rw[hz]
 exact this
def pC(s:R):R:=(s.1,(s.2.1,(!s.2.2.1,())))
theorem aC5{s:R}(hl:s.1.length<=9223372036854775802):aC (pC s)=(pC (aA s).1,(aA s).2):=by
 obtain⟨b,i,f,_⟩:=s
 unfold aC aA aEo pC
 simp only
 rw[wI hl]
 cases f<;>cases(dM b i).2.2<;>simp
theorem aEP{s:R}(hl:s.1.length<=9223372036854775802):aV (pC s)=(pC (aP s).1,(aP s).2):=by
 obtain⟨b,i,f,_⟩:=s
 unfold aV aP aDG pC
 simp only
 rw[wI hl]
 cases f<;>cases(aDo b (dM b i)).2.2<;>simp
theorem aKq{s:R}(hl:s.1.length<=9223372036854775802):aFh aC aV (pC s)=(pC (bL s).1,(bL s).2):=by
 have hn:∀t:R,t.1=s.1->aC (pC t)=(pC (aA t).1,(aA t).2):=fun t ht=>aC5 (by rw[ht];exact hl)
 have ht:∀t:R,t.1=s.1->aV (pC t)=(pC (aP t).1,(aP t).2):=fun t ht=>aEP (by rw[ht];exact hl)
 unfold aFh bL aFh letB
 rw[hn s rfl];simp only
 rw[hn _ (by simp only[cI])];simp only
 rw[hn _ (by simp only[cI])];simp only
 rw[hn _ (by simp only[cI])];simp only
 rw[hn _ (by simp only[cI])];simp only
 rw[hn _ (by simp only[cI])];simp only
 rw[ht _ (by simp only[cI])];simp only
 rw[ht _ (by simp only[cI,aBn])]
theorem aIT(g:GN)(good:Bool){s:R}(h:s.2.2.1=!good):(aDG g good s).1=s:=by
 obtain⟨b,i,f,_⟩:=s
 unfold aDG
 rw[if_neg (by rintro⟨h1,_⟩;rw[h1] at h;cases good<;>cases h)]
 simp only at h ⊢
 rw[h]
theorem aG0:(n:Nat)->(s:R)->(xs:List aL)->s.1.length<=9223372036854775802->
 mT aC eQ false n (pC s) xs=(pC (mT aA bL true n s xs).1,(mT aA bL true n s xs).2)\/
 ((mT aC eQ false n (pC s) xs).1.2.2.1=true/\∃e∈(mT aA bL true n s xs).2,pE e.2.1=false)
 |0,s,xs,_=>.inl rfl
 |n+1,s,xs,hl=>by
  unfold mT
  by_cases hf:s.2.2.1=true
  case neg=>
   rw[if_neg hf,if_neg (by simpa [pC] using hf)]
   exact .inl rfl
  rw[if_pos hf,if_pos (by simpa [pC] using hf),aC5 hl]
  simp only
  have hl1:(aA s).1.1.length<=9223372036854775802:=by rw[cI];exact hl
  have hl2:(bL (aA s).1).1.1.length<=9223372036854775802:=by rw[vH];exact hl1
  have hc:=aKq hl1
  by_cases hok:(bL (aA s).1).1.2.2.1=true/\pE (bL (aA s).1).2=false
  . -- the program stops here
    refine .inr ⟨?_,?_⟩
    . have hr:eQ (pC (aA s).1)=(((bL (aA s).1).1.1,((bL (aA s).1).1.2.1,(true,()))),(bL (aA s).1).2):=by
       unfold eQ letB
       rw[hc]
       simp only[pC,hok.1,hok.2,Bool.not_true,Bool.not_false,Zj,if_false]
      rw[hr]
      cases n with
      |zero=>rfl
      |succ m=>unfold mT;rfl
    . cases hn:n with
      |zero=>exact⟨_,by simp only[mT];exact List.mem_append_right _ (Zq.2 rfl),hok.2⟩
      |succ m=>
       have:∀(n:Nat) (s:R) (xs:List aL),∀e∈xs,e∈(mT aA bL true n s xs).2:=by
        intro n
        induction n with
        |zero=>exact fun _ _ _ h=>h
        |succ n ih=>
         intro s xs e h
         unfold mT
         split
         . exact ih _ _ _ (List.mem_append_left _ h)
         . exact h
       exact⟨_,this _ _ _ _ (List.mem_append_right _ (Zq.2 rfl)),hok.2⟩
  . have hr:eQ (pC (aA s).1)=(pC (bL (aA s).1).1,(bL (aA s).1).2):=by
     unfold eQ letB
     rw[hc]
     simp only
     generalize bL (aA s).1=p at *
     obtain⟨⟨b,i,f,_⟩,c⟩:=p
     simp only[pC] at *
     cases f
     . simp
     . simp only[true_and,Bool.not_eq_false] at hok
       simp[hok]
    rw[hr]
    exact aG0 n _ _ hl2
def aH8(b:List Int):Bool:=
 (cZ (b,(0,(true,())))).1.2.2.1&&(eqI (cZ (b,(0,(true,())))).1.2.1 (b.length:Int)&&jE (cZ (b,(0,(true,())))).2)
theorem aMZ{b:List Int}(hl:b.length<=9223372036854775802):
 (eC b).2=aH8 b/\(aH8 b=true->(eC b).1=(cZ (b,(0,(true,())))).2):=by
 have hn:∀t:R,t.1=b->aC (pC t)=(pC (aA t).1,(aA t).2):=fun t ht=>aC5 (by rw[ht];exact hl)
 have hf0:((b,tH):R)=pC (b,((0:Int),(true,()))):=rfl
 unfold eC aH8
 rw[hf0]
 unfold cZ
 generalize hs:((b,((0:Int),(true,()))):R)=s
 have hsb:s.1=b:=by rw[<-hs]
 unfold aFW letB
 simp only[hn,cI,hsb]
 have hl5:(aA (aA (aA (aA (aA s).1).1).1).1).1.1.length<=9223372036854775802:=by simp only[cI,hsb];exact hl
 have hb5:(aA (aA (aA (aA (aA s).1).1).1).1).1.1=b:=by simp only[cI,hsb]
 generalize aA (aA (aA (aA (aA s).1).1).1).1=v5 at *
 rcases aG0 v5.2.toNat v5.1 [] hl5 with h|⟨h,e,he,hc⟩
 . simp only[h]
   have hb6:∀(n:Nat) (t:R) (xs:List aL),(mT aA bL true n t xs).1.1=t.1:=by
    intro n
    induction n with
    |zero=>exact fun _ _=>rfl
    |succ n ih=>
     intro t xs
     unfold mT
     split
     . rw[ih,vH,cI]
     . rfl
   have h6:=hb6 v5.2.toNat v5.1 []
   generalize mT aA bL true v5.2.toNat v5.1 []=v6 at *
   have h7:=aEP (s:=v6.1) (by rw[h6];exact hl5)
   simp only[h7]
   simp only[pC,Bool.not_not]
   exact⟨trivial,fun _=>trivial⟩
 . have hbad:∀r:eE,r.2.2.2.2.1=(mT aA bL true v5.2.toNat v5.1 []).2->jE r=false:=by
    intro r hr
    cases hk:jE r
    . rfl
    . have:=aD6 hk e (by rw[hr];exact he)
      rw[hc] at this;cases this
   have ht:(aV (mT aC eQ false v5.2.toNat (pC v5.1) []).1).1=(mT aC eQ false v5.2.toNat (pC v5.1) []).1:=aIT _ _ h
   simp only[ht,h,Bool.not_true,Bool.false_and]
   rw[hbad _ rfl]
   simp
def sZ:eE:=(0,(0,(0,(0,([],([],()))))))
def ofV(v:Int×(Int×Bool))(b:List Int)(k:List Int->Int->eE×(Int×Bool)):eE×(Int×Bool):=
 if v.2.2=true then
  if(b.length:Int)-v.2.1-4<v.1 then(sZ,(0,false))
  else k (bE v.2.1.toNat (v.2.1+v.1).toNat b) (v.2.1+v.1+4)
 else(sZ,(0,false))
def bG(b:List Int)(i:Int):eE×(Int×Bool):=
 ofV (dM b i) b fun body e=>if kX (aHe (wY body))=kX (bE (e-4).toNat e.toNat b) then
  (if aH8 body=true then((cZ (body,(0,(true,())))).2,(e,true)) else(sZ,(0,false))) else(sZ,(0,false))
def gK(b:List Int)(i:Int):eE×(Int×Bool):=
 ofV (bW b i) b fun body e=>if(eC body).2=true then
  (if kX (sC (eC body).1)=kX (bE i.toNat e.toNat b) then((eC body).1,(e,true)) else(sZ,(0,false))) else(sZ,(0,false))
theorem aKO(a b:List Int):kX (a++b)=kX a++kX b:=by simp[kX]
theorem aHz{b:List Int}(i:Int)(hb:bQ b=true)(hl:b.length<=9223372036854775802):gK b i=bG b i:=by
 unfold gK bG ofV
 rw[wI hl]
 by_cases h:(dM b i).2.2=true
 case neg=>rw[if_neg h,if_neg h]
 rw[if_pos h,if_pos h]
 obtain⟨g0,g1,g2,g3,g4,g5⟩:=nG hb h
 generalize dM b i=v at *
 split
 . rfl
 rename_i hle
 have hbl:(bE v.2.1.toNat (v.2.1+v.1).toNat b).length=(v.2.1+v.1).toNat-v.2.1.toNat:=Go.Aw.dropTake_len (by omega) (by omega)
 have hbb:bQ (bE v.2.1.toNat (v.2.1+v.1).toNat b)=true:=yL hb _ _
 have hhead:bE v.2.1.toNat (v.2.1+v.1).toNat b++bE (v.2.1+v.1).toNat (v.2.1+v.1+4).toNat b=bE v.2.1.toNat (v.2.1+v.1+4).toNat b:=vC (by omega) (by omega)
 have hall:pD v.1++bE v.2.1.toNat (v.2.1+v.1+4).toNat b=bE i.toNat (v.2.1+v.1+4).toNat b:=by rw[<-g5,vC (by omega) (by omega)]
 generalize hbd:bE v.2.1.toNat (v.2.1+v.1).toNat b=body at *
 obtain⟨h1,h2⟩:=aMZ (b:=body) (by omega)
 show(if(eC body).2=true then(if kX (sC (eC body).1)=kX (bE i.toNat (v.2.1+v.1+4).toNat b) then((eC body).1,(v.2.1+v.1+4,true)) else(sZ,(0,false))) else(sZ,(0,false)))=(if kX (aHe (wY body))=kX (bE (v.2.1+v.1+4-4).toNat (v.2.1+v.1+4).toNat b) then
  (if aH8 body=true then((cZ (body,(0,(true,())))).2,(v.2.1+v.1+4,true)) else(sZ,(0,false))) else(sZ,(0,false)))
 rw[h1]
 by_cases hok:aH8 body=true
 case neg=>
  rw[if_neg hok,if_neg hok];split<;>rfl
 rw[if_pos hok,if_pos hok,h2 hok,show v.2.1+v.1+4-4=v.2.1+v.1 by omega]
 unfold aH8 eqI at hok
 simp only[Zb,Za] at hok
 obtain⟨k1,k2,k3⟩:=hok
 have hr:=(aMk (s:=(body,((0:Int),(true,())))) hbb k3).2 k1
 have hbody:=(hr.2 (Int.le_refl _) (by simp only;omega)).2.2
 rw[k2] at hbody
 have hbody2:body=mG (cZ (body,(0,(true,())))).2:=by
  rw[<-hbody];simp[bE]
 unfold sC
 rw[if_pos k3,<-hbody2,<-hall,<-hhead,show((body.length:Nat):Int)=v.1 by omega]
 simp only[aKO,Zk]
 by_cases hs:kX (aHe (wY body))=kX (bE (v.2.1+v.1).toNat (v.2.1+v.1+4).toNat b)
 . rw[if_pos hs,if_pos (by rw[hs])]
 . rw[if_neg hs,if_neg]
   intro hq
   exact hs (List.append_cancel_left (List.append_cancel_left hq))
namespace bG
def pre(_:List Int)(_:Int):Bool:=true
abbrev wf(x0:(List Int))(x1:Int):Prop:=fW [(.val wM .f),(.val (.int .i64) .f)] (x0,(x1,()))
noncomputable def aR(x0:(List Int))(x1:Int):Option (Unit×(eE×aDq)):=
 letB (dM x0 x1) fun v1=>
 if(!v1.2.2)=true then
 some ((),(aBa,tH))
 else
 if(decide ((wrap .i64 ((wrap .i64 (((length x0:Nat):Int)-v1.2.1))-(4:Int)))<v1.1))=true then
 some ((),(aBa,tH))
 else
 if(decide ((0:Int)<=v1.2.1))=true then
 if(decide (v1.2.1<=(wrap .i64 (v1.2.1+v1.1))))=true then
 if(decide ((wrap .i64 (v1.2.1+v1.1))<=((length x0:Nat):Int)))=true then
 if(decide ((0:Int)<=(wrap .i64 (v1.2.1+v1.1))))=true then
 if(decide ((wrap .i64 (v1.2.1+v1.1))<=(wrap .i64 ((wrap .i64 (v1.2.1+v1.1))+(4:Int)))))=true then
 if(decide ((wrap .i64 ((wrap .i64 (v1.2.1+v1.1))+(4:Int)))<=((length x0:Nat):Int)))=true then
 letB (oQ (bE (Int.toNat v1.2.1) (Int.toNat (wrap .i64 (v1.2.1+v1.1))) x0)) fun v2=>
 if(!((kX v2)==(kX (bE (Int.toNat (wrap .i64 (v1.2.1+v1.1))) (Int.toNat (wrap .i64 ((wrap .i64 (v1.2.1+v1.1))+(4:Int)))) x0))))=true then
 some ((),(aBa,tH))
 else
 if(cZ.pre ((bE (Int.toNat v1.2.1) (Int.toNat (wrap .i64 (v1.2.1+v1.1))) x0),((0:Int),(true,()))))=true then
 letB (cZ ((bE (Int.toNat v1.2.1) (Int.toNat (wrap .i64 (v1.2.1+v1.1))) x0),((0:Int),(true,())))) fun v3=>
 if(!v3.1.2.2.1)=true then
 some ((),(aBa,tH))
 else
 if(!(decide (v3.1.2.1=((length (bE (Int.toNat v1.2.1) (Int.toNat (wrap .i64 (v1.2.1+v1.1))) x0):Nat):Int))))=true then
 some ((),(aBa,tH))
 else
 letB (jE v3.2) fun v4=>
 if(!v4)=true then
 some ((),(aBa,tH))
 else
 some ((),(v3.2,((wrap .i64 ((wrap .i64 (v1.2.1+v1.1))+(4:Int))),(true,()))))
 else
 none
 else
 none
 else
 none
 else
 none
 else
 none
 else
 none
 else
 none
theorem eq(x0:List Int)(x1:Int)(hw:wf x0 x1)(_:pre x0 x1=true):aR x0 x1=some ((),((bG x0 x1).1,((bG x0 x1).2.1,((bG x0 x1).2.2,())))):=by
 have h1:x0.length<=maxLen:=hw.1.1
 have hM:=lH
 have hb:bQ x0=true:=gN hw.1.2
 unfold aR bG ofV
 simp only[letB]
 by_cases h:(dM x0 x1).2.2=true
 case neg=>rw[if_pos (by simp[h]),if_neg h];rfl
 obtain⟨g0,g1,g2,g3,g4,g5⟩:=nG hb h
 generalize dM x0 x1=v at *
 rw[if_neg (by simp[h]),if_pos h,iV (n:=(x0.length:Int)-_) (by omega) (by omega),iV (n:=(x0.length:Int)-v.2.1-4) (by omega) (by omega)]
 by_cases hl:(x0.length:Int)-v.2.1-4<v.1
 . rw[if_pos (by simp only[Za];exact hl),if_pos hl];rfl
 rw[if_neg (by simp only[Za];exact hl),if_neg hl,iV (n:=v.2.1+v.1) (by omega) (by omega),iV (n:=v.2.1+v.1+4) (by omega) (by omega)]
 rw[if_pos (by simp only[Za];omega),if_pos (by simp only[Za];omega),if_pos (by simp only[Za];omega),if_pos (by simp only[Za];omega),if_pos (by simp only[Za];omega),if_pos (by simp only[Za];omega)]
 rw[if_pos (show cZ.pre _=true from rfl),show v.2.1+v.1+4-4=v.2.1+v.1 by omega]
 generalize bE v.2.1.toNat (v.2.1+v.1).toNat x0=body
 have hs:oQ body=aHe (wY body):=rfl
 rw[hs]
 by_cases hq:kX (aHe (wY body))=kX (bE (v.2.1+v.1).toNat (v.2.1+v.1+4).toNat x0)
 case neg=>rw[if_pos (by simpa using hq),if_neg hq];rfl
 rw[if_neg (by simpa using hq),if_pos hq]
 unfold aH8 eqI
 generalize cZ (body,((0:Int),(true,())))=p
 obtain⟨⟨b,i,f,_⟩,r⟩:=p
 simp only
 cases f
 . simp[sZ]
 . by_cases hi:i=(body.length:Int)
   . cases jE r<;>simp[hi,sZ]
   . simp[hi,sZ]
end bG
namespace gK
def pre(_:List Int)(i:Int):Bool:=decide (i<=i)
abbrev wf(x0:(List Int))(x1:Int):Prop:=fW [(.val wM .f),(.val (.int .i64) .f)] (x0,(x1,()))
noncomputable def aR(x0:(List Int))(x1:Int):Option (Unit×(eE×aDq)):=
 letB (bW x0 x1) fun v1=>
 if(!v1.2.2)=true then
 some ((),(aBa,tH))
 else
 if(decide ((wrap .i64 ((wrap .i64 (((length x0:Nat):Int)-v1.2.1))-(4:Int)))<v1.1))=true then
 some ((),(aBa,tH))
 else
 if(decide ((0:Int)<=v1.2.1))=true then
 if(decide (v1.2.1<=(wrap .i64 (v1.2.1+v1.1))))=true then
 if(decide ((wrap .i64 (v1.2.1+v1.1))<=((length x0:Nat):Int)))=true then
 if(eC.pre (bE (Int.toNat v1.2.1) (Int.toNat (wrap .i64 (v1.2.1+v1.1))) x0))=true then
 letB (eC (bE (Int.toNat v1.2.1) (Int.toNat (wrap .i64 (v1.2.1+v1.1))) x0)) fun v2=>
 if(!v2.2)=true then
 some ((),(aBa,tH))
 else
 if(decide ((0:Int)<=x1))=true then
 if(decide (x1<=(wrap .i64 ((wrap .i64 (v1.2.1+v1.1))+(4:Int)))))=true then
 if(decide ((wrap .i64 ((wrap .i64 (v1.2.1+v1.1))+(4:Int)))<=((length x0:Nat):Int)))=true then
 letB (sC v2.1) fun v3=>
 if(!((kX v3)==(kX (bE (Int.toNat x1) (Int.toNat (wrap .i64 ((wrap .i64 (v1.2.1+v1.1))+(4:Int)))) x0))))=true then
 some ((),(aBa,tH))
 else
 some ((),(v2.1,((wrap .i64 ((wrap .i64 (v1.2.1+v1.1))+(4:Int))),(true,()))))
 else
 none
 else
 none
 else
 none
 else
 none
 else
 none
 else
 none
 else
 none
theorem eq(x0:List Int)(x1:Int)(hw:wf x0 x1)(_:pre x0 x1=true):aR x0 x1=some ((),((gK x0 x1).1,((gK x0 x1).2.1,((gK x0 x1).2.2,())))):=by
 have h1:x0.length<=maxLen:=hw.1.1
 have hM:=lH
 have hb:bQ x0=true:=gN hw.1.2
 unfold aR gK ofV
 simp only[letB]
 by_cases h:(bW x0 x1).2.2=true
 case neg=>rw[if_pos (by simp[h]),if_neg h];rfl
 have hg:=aAe h
 rw[hg] at h ⊢
 obtain⟨g0,g1,g2,g3,g4,g5⟩:=nG hb h
 generalize dM x0 x1=v at *
 rw[if_neg (by simp[h]),if_pos h,iV (n:=(x0.length:Int)-_) (by omega) (by omega),iV (n:=(x0.length:Int)-v.2.1-4) (by omega) (by omega)]
 by_cases hl:(x0.length:Int)-v.2.1-4<v.1
 . rw[if_pos (by simp only[Za];exact hl),if_pos hl];rfl
 rw[if_neg (by simp only[Za];exact hl),if_neg hl,iV (n:=v.2.1+v.1) (by omega) (by omega),iV (n:=v.2.1+v.1+4) (by omega) (by omega)]
 rw[if_pos (by simp only[Za];omega),if_pos (by simp only[Za];omega),if_pos (by simp only[Za];omega),if_pos (show eC.pre _=true from rfl)]
 generalize eC (bE v.2.1.toNat (v.2.1+v.1).toNat x0)=p
 obtain⟨r,f⟩:=p
 cases f
 . simp[sZ]
 rw[if_neg (by simp),if_pos (by simp only[Za];omega),if_pos (by simp only[Za];omega),if_pos (by simp only[Za];omega)]
 by_cases hq:kX (sC r)=kX (bE x1.toNat (v.2.1+v.1+4).toNat x0)
 . rw[if_neg (by simpa using hq)];simp[hq]
 . rw[if_pos (by simpa using hq)];simp[hq,sZ]
end gK
section
variable {α:Type}
theorem pG{xs:List α}{i:Nat}{f:α->α}{d:α}(h:i<xs.length):(xs.modify i f).getD i d=f (xs.getD i d):=by
 rw[eV (by rw[List.length_modify];exact h),eV h,List.getElem_modify,if_pos rfl]
def bJ(g:α->Int):List α->Int
 |[]=>0
 |a::r=>g a+bJ g r
def pF(m:α->Int->α)(g:α->Int):List α->Int->List α
 |[],_=>[]
 |a::r,k=>m a k::pF m g r (k+g a)
structure aA1(m:α->Int->α)(g:α->Int):Prop where
 pos:∀x,1<=g x
 keep:∀x k,g (m x k)=g x
 idem:∀x k,m (m x k) k=m x k
theorem aCs{m:α->Int->α}{g:α->Int}(ok:aA1 m g):(xs:List α)->(xs.length:Int)<=bJ g xs
 |[]=>by simp[bJ]
 |a::r=>by
  have:=ok.pos a
  have:=aCs ok r
  simp only[bJ,Zg];omega
theorem gQ{m:α->Int->α}{g:α->Int}(ok:aA1 m g)(xs:List α):0<=bJ g xs:=by
 have:=aCs ok xs
 omega
theorem lC{m:α->Int->α}{g:α->Int}(ok:aA1 m g):(xs:List α)->(k:Int)->bJ g (pF m g xs k)=bJ g xs
 |[],_=>rfl
 |a::r,k=>by simp only[pF,bJ,ok.keep,lC ok r]
theorem uC{m:α->Int->α}{g:α->Int}(ok:aA1 m g):(xs:List α)->(k:Int)->pF m g (pF m g xs k) k=pF m g xs k
 |[],_=>rfl
 |a::r,k=>by simp only[pF,ok.keep,ok.idem,uC ok r]
abbrev MkS(α:Type):=Int×(Int×(List α×Unit))
def sN(g:α->Int):MkS α->Bool:=fun s=>decide (0<=s.1)&&(decide (0<=s.2.1)&&(decide (s.2.1.toNat<=s.2.2.1.length)&&(decide (s.2.2.1.length<=134217728)&&decide (s.1+bJ g (s.2.2.1.drop s.2.1.toNat)<=134217728))))
def aDr(m:α->Int->α)(g:α->Int):MkS α->Int×(List α×Unit):=fun s=>(s.1+bJ g (s.2.2.1.drop s.2.1.toNat),(s.2.2.1.take s.2.1.toNat++pF m g (s.2.2.1.drop s.2.1.toNat) s.1,()))
def aDW:MkS α->Nat:=fun s=>s.2.2.1.length-s.2.1.toNat
theorem sM{m:α->Int->α}{g:α->Int}(ok:aA1 m g){k i:Int}{xs:List α}(hp:sN g (k,(i,(xs,())))=true)(hlt:i<(xs.length:Int))(d:α):
 0<=i/\0<=k/\k+g (xs.getD i.toNat d)<=134217728/\i.toNat<xs.length:=by
 simp only[sN,Zb,Za] at hp
 obtain⟨h1,h2,h3,h4,h5⟩:=hp
 have hn:i.toNat<xs.length:=by omega
 rw[eV hn]
 rw[Zn hn] at h5
 have:=gQ ok (xs.drop (i.toNat+1))
 simp only[bJ] at h5
 exact⟨h2,h1,by omega,hn⟩
theorem xN{m:α->Int->α}{g:α->Int}(ok:aA1 m g){k i:Int}{xs:List α}(hp:sN g (k,(i,(xs,())))=true)(hlt:i<(xs.length:Int))(d:α)
 {K:Int} {f:α->α} (hK:K=k+g (xs.getD i.toNat d)) (hf:f (xs.getD i.toNat d)=m (xs.getD i.toNat d) k):
 Rounds (sN g) aDW (aDr m g) (k,(i,(xs,()))) (some (.inl (K,(wrap .i64 (i+1),(xs.modify i.toNat f,()))))):=by
 have hfa:=sM ok hp hlt d
 simp only[sN,Zb,Za] at hp
 obtain⟨h1,h2,h3,h4,h5⟩:=hp
 have hn:i.toNat<xs.length:=by omega
 rw[eV hn] at *
 have hpos:=ok.pos xs[i.toNat]
 have hd:(xs.modify i.toNat f).drop (i.toNat+1)=xs.drop (i.toNat+1):=by
  rw[List.drop_modify_of_lt];omega
 have ht:(xs.modify i.toNat f).take (i.toNat+1)=xs.take i.toNat++[m xs[i.toNat] k]:=by
  rw[List.take_add_one,Zm (by rw[List.length_modify];exact hn),List.getElem_modify,if_pos rfl,hf]
  congr 1
  apply List.ext_getElem?
  intro j
  rw[List.getElem?_take,List.getElem?_take]
  split
  . rw[List.getElem?_modify]
    have hne:¬i.toNat=j:=by omega
    simp only[hne,if_false]
    cases xs[j]?<;>rfl
  . rfl
 rw[Zn hn] at h5
 simp only[bJ] at h5
 simp only[Rounds,iV (n:=i+1) (by omega) (by omega)]
 have ei:(i+1).toNat=i.toNat+1:=by omega
 refine⟨?_,by simp only[aDW,List.length_modify];omega,?_⟩
 . simp only[sN,Zb,Za,List.length_modify,ei,hd]
   omega
 . simp only[aDr,ei,hd,ht]
   conv=>rhs;rw[Zn hn]
   simp only[bJ,pF,hK,Zk,List.cons_append,List.nil_append,Int.add_assoc]
theorem aAw{m:α->Int->α}{g:α->Int}{k i:Int}{xs:List α}(hp:sN g (k,(i,(xs,())))=true)(hlt:¬i<(xs.length:Int)):
 Rounds (sN g) aDW (aDr m g) (k,(i,(xs,()))) (some (.inr (k,(xs,())))):=by
 simp only[sN,Zb,Za] at hp
 obtain⟨h1,h2,h3,h4,h5⟩:=hp
 simp only[Rounds,aDr]
 rw[Zt (by omega),List.take_of_length_le (by omega)]
 simp[bJ,pF]
def zW(g:α->Int)(xs:List α)(k:Int):Bool:=decide (0<=k)&&decide (k+bJ g xs<=134217728)
theorem mL{g:α->Int}{xs:List α}{k:Int}:zW g xs k=true↔0<=k/\k+bJ g xs<=134217728:=by simp[zW]
theorem uI{m:α->Int->α}{g:α->Int}(ok:aA1 m g){xs:List α}{k:Int}(h:zW g xs k=true):sN g (k,((0:Int),(xs,())))=true:=by
 rw[mL] at h
 have:=aCs ok xs
 simp only[sN,Zb,Za,Int.toNat_zero,List.drop_zero]
 omega
noncomputable def uZ(m:α->Int->α)(g:α->Int)(x:α)(k:Int):Int:=cond (same x (m x k)) (k+g x) (-1)
theorem mX{m:α->Int->α}{g:α->Int}{x:α}{k:Int}(h:x=m x k):uZ m g x k=k+g x:=by
 rw[uZ,bV.2 h];rfl
theorem kD{m:α->Int->α}{g:α->Int}{x:α}{k:Int}(h:¬x=m x k):uZ m g x k=-1:=by
 rw[uZ,aQ.2 h];rfl
theorem aMM{m:α->Int->α}{g:α->Int}(h1:∀x k,g (m x k)=g x)(h2:∀x k,m (m x k) k=m x k)(x:α)(k:Int):uZ m g (m x k) k=k+g x:=by
 rw[mX (h2 x k).symm,h1]
abbrev HeS(α:Type):=List α×(Int×(Int×Unit))
def rG(g:α->Int):HeS α->Bool:=fun s=>decide (0<=s.2.1)&&(decide (0<=s.2.2.1)&&(decide (s.2.2.1.toNat<=s.1.length)&&(decide (s.1.length<=134217728)&&decide (s.2.1+bJ g (s.1.drop s.2.2.1.toNat)<=134217728))))
noncomputable def aBG(m:α->Int->α)(g:α->Int):HeS α->(Int×Unit)⊕(Int×Unit):=fun s=>
 cond (same (s.1.drop s.2.2.1.toNat) (pF m g (s.1.drop s.2.2.1.toNat) s.2.1)) (.inr (s.2.1+bJ g (s.1.drop s.2.2.1.toNat),())) (.inl (-1,()))
def aEv:HeS α->Nat:=fun s=>s.1.length-s.2.2.1.toNat
theorem wU{m:α->Int->α}{g:α->Int}(ok:aA1 m g){k i:Int}{xs:List α}(hp:rG g (xs,(k,(i,())))=true)(hlt:i<(xs.length:Int))(d:α):
 0<=i/\0<=k/\k+g (xs.getD i.toNat d)<=134217728:=by
 simp only[rG,Zb,Za] at hp
 obtain⟨h1,h2,h3,h4,h5⟩:=hp
 have hn:i.toNat<xs.length:=by omega
 rw[eV hn]
 rw[Zn hn] at h5
 have:=gQ ok (xs.drop (i.toNat+1))
 simp only[bJ] at h5
 exact⟨h2,h1,by omega⟩
theorem zM{m:α->Int->α}{g:α->Int}(ok:aA1 m g){k i:Int}{xs:List α}(hp:rG g (xs,(k,(i,())))=true)(hlt:i<(xs.length:Int))(d:α)
 {K:Int} (hK:K=k+g (xs.getD i.toNat d)) (he:xs.getD i.toNat d=m (xs.getD i.toNat d) k):
 Rounds (rG g) aEv (aBG m g) (xs,(k,(i,()))) (some (.inl (xs,(K,(wrap .i64 (i+1),()))))):=by
 simp only[rG,Zb,Za] at hp
 obtain⟨h1,h2,h3,h4,h5⟩:=hp
 have hn:i.toNat<xs.length:=by omega
 rw[eV hn] at *
 have hpos:=ok.pos xs[i.toNat]
 rw[Zn hn] at h5
 simp only[bJ] at h5
 have ei:(i+1).toNat=i.toNat+1:=by omega
 simp only[Rounds,iV (n:=i+1) (by omega) (by omega)]
 refine⟨?_,by simp only[aEv];omega,?_⟩
 . simp only[rG,Zb,Za,ei]
   omega
 . simp only[aBG,ei]
   rw[Zn hn]
   simp only[pF,bJ]
   subst hK
   by_cases hc:xs.drop (i.toNat+1)=pF m g (xs.drop (i.toNat+1)) (k+g xs[i.toNat])
   . rw[bV.2 hc,bV.2 (List.cons.injEq ..▸⟨he,hc⟩),Int.add_assoc]
   . rw[aQ.2 hc,aQ.2 (fun h=>hc (List.cons.inj h).2)];rfl
theorem aBq{m:α->Int->α}{g:α->Int}{k i:Int}{xs:List α}(hp:rG g (xs,(k,(i,())))=true)(hlt:i<(xs.length:Int))(d:α)
 (he:¬xs.getD i.toNat d=m (xs.getD i.toNat d) k):
 Rounds (rG g) aEv (aBG m g) (xs,(k,(i,()))) (some (.inr (.inl (-1,())))):=by
 simp only[rG,Zb,Za] at hp
 obtain⟨h1,h2,h3,h4,h5⟩:=hp
 have hn:i.toNat<xs.length:=by omega
 rw[eV hn] at he
 simp only[Rounds,aBG]
 rw[Zn hn]
 simp only[pF]
 rw[aQ.2 (fun h=>he (List.cons.inj h).1)]
 rfl
theorem aBz{m:α->Int->α}{g:α->Int}{k i:Int}{xs:List α}(hp:rG g (xs,(k,(i,())))=true)(hlt:¬i<(xs.length:Int)):
 Rounds (rG g) aEv (aBG m g) (xs,(k,(i,()))) (some (.inr (.inr (k,())))):=by
 simp only[rG,Zb,Za] at hp
 obtain⟨h1,h2,h3,h4,h5⟩:=hp
 simp only[Rounds,aBG]
 rw[Zt (by omega)]
 simp only[pF,bJ,Int.add_zero]
 rw[pT]
 rfl
theorem wV{m:α->Int->α}{g:α->Int}(ok:aA1 m g){xs:List α}{k:Int}(h:zW g xs k=true):rG g (xs,(k,((0:Int),())))=true:=by
 rw[mL] at h
 have:=aCs ok xs
 simp only[rG,Zb,Za,Int.toNat_zero,List.drop_zero]
 omega
theorem rV{m:α->Int->α}{g:α->Int}(xs:List α)(k:Int):
 (match aBG m g (xs,(k,((0:Int),()))) with|.inl y=>some ((),y)|.inr y=>some ((),y))=some ((),(uZ (pF m g) (bJ g) xs k,())):=by
 have e:aBG m g (xs,(k,((0:Int),())))=cond (same xs (pF m g xs k)) (.inr (k+bJ g xs,())) (.inl (-1,())):=rfl
 rw[e]
 by_cases h:xs=pF m g xs k
 . rw[bV.2 h,mX h];rfl
 . rw[aQ.2 h,kD h];rfl
def aIA(w:α->Int):List α->Int
 |[]=>0
 |a::r=>w a+aIA w r
def wL(w:α->Int)(xs:List α):Int:=xs.length+aIA w xs
theorem aJR{w:α->Int}(h:∀x,0<=w x):(xs:List α)->0<=aIA w xs
 |[]=>by simp[aIA]
 |a::r=>by
  have:=h a
  have:=aJR h r
  simp only[aIA];omega
theorem aOi{w:α->Int}(h:∀x,0<=w x)(xs:List α):(xs.length:Int)<=wL w xs:=by
 have:=aJR h xs
 simp only[wL];omega
def aNp(p:α->Bool):ToS α->Prop:=fun s=>aLm s/\s.1.all p=true
open Classical in
noncomputable def aA3(p:α->Bool)(s:ToS α):Bool:=decide (aNp p s)
theorem wQ{p:α->Bool}{s:ToS α}:aA3 p s=true↔aNp p s:=by simp[aA3]
theorem aLK{p:α->Bool}{x1:List α}{x2:Int}{x3:List α}(hp:aA3 p (x1,(x2,(x3,())))=true)(hlt:x2<(x1.length:Int))(d:α):
 x2<(x3.length:Int)/\0<=x2/\p (x1.getD x2.toNat d)=true:=by
 rw[wQ] at hp
 obtain⟨⟨h1,h2,h3,h4,h5⟩,h6⟩:=hp
 simp only[] at h1 h2 h3 h4 h5 h6
 refine⟨by omega,h2,?_⟩
 rw[eV (by omega)]
 exact Zu.1 h6 _ (List.getElem_mem _)
theorem aNd{p:α->Bool}{x1:List α}{x2:Int}{x3:List α}(hp:aA3 p (x1,(x2,(x3,())))=true)(hlt:x2<(x1.length:Int))(d:α){f:α->α}(hf:f=fun _=>x1.getD x2.toNat d):
 Rounds (aA3 p) aKF aKQ (x1,(x2,(x3,()))) (some (.inl (x1,(wrap .i64 (x2+1),(x3.modify x2.toNat f,()))))):=by
 rw[wQ] at hp
 have:=(aMg (qG.2 hp.1) hlt d).2.2
 rw[hf]
 simp only[Rounds] at *
 refine⟨?_,this.2.1,this.2.2⟩
 rw[wQ]
 exact⟨qG.1 this.1,hp.2⟩
theorem aNP{p:α->Bool}{x1:List α}{x2:Int}{x3:List α}(hp:aA3 p (x1,(x2,(x3,())))=true)(hlt:¬x2<(x1.length:Int)):
 Rounds (aA3 p) aKF aKQ (x1,(x2,(x3,()))) (some (.inr (x3,()))):=by
 rw[wQ] at hp
 exact aO8 (qG.2 hp.1) hlt
theorem aMd{p:α->Bool}{x:List α}(h:x.length<=maxLen)(ha:x.all p=true)(d:α):aA3 p (x,((0:Int),(List.replicate (Int.toNat ((x.length:Nat):Int)) d,())))=true:=by
 rw[wQ]
 exact⟨qG.1 (aM8 h d),ha⟩
end
def qJ(_:Int)(k:Int):Int:=k
def aDD(_:Int)(k:Int):Int:=wrap .u8 k
def bO(_:Int):Int:=1
def oI(_:Int):Int:=1
theorem gP:aA1 qJ bO:=⟨fun _=>Int.le_refl _,fun _ _=>rfl,fun _ _=>rfl⟩
theorem aBF:aA1 aDD oI:=⟨fun _=>Int.le_refl _,fun _ _=>rfl,fun _ _=>rfl⟩
theorem aFQ{α:Type}{w:α->Int}(h:∀x,w x=0):(xs:List α)->aIA w xs=0
 |[]=>rfl
 |a::r=>by simp only[aIA,h,aFQ h r];rfl
def aIS(_:Int):Int:=0
theorem aL0(x:Int):0<=aIS x:=Int.le_refl _
noncomputable def dY(a b:List Int):Bool:=same a b
namespace dY
def pre4:=sV (α:=Int)
noncomputable def fn4:=aA0 (α:=Int)
def qD:=aCF (α:=Int)
noncomputable def hJ(x1:(List Int))(x2:(List Int))(x3:Int):Option (((List Int)×((List Int)×(Int×Unit)))⊕((Bool×Unit)⊕Unit)):=
 if(decide (x3<((length x1:Nat):Int)))=true then
 if(decide ((0:Int)<=x3))=true then
 if(decide (x3<((length x1:Nat):Int)))=true then
 if(decide ((0:Int)<=x3))=true then
 if(decide (x3<((length x2:Nat):Int)))=true then
 if(!(decide ((List.getD x1 (Int.toNat x3) (0:Int))=(List.getD x2 (Int.toNat x3) (0:Int)))))=true then
 some (.inr (.inl (false,())))
 else
 some (.inl (x1,(x2,((wrap .i64 (x3+(1:Int))),()))))
 else
 none
 else
 none
 else
 none
 else
 none
 else
 some (.inr (.inr ()))
abbrev wf(x0:(List Int))(x1:(List Int)):Prop:=fW [(.val (.sl 0 (.int .i64)) .f),(.val (.sl 0 (.int .i64)) .f)] (x0,(x1,()))
noncomputable def aR(x0:(List Int))(x1:(List Int)):Option kZ:=
 if(!(decide (((length x0:Nat):Int)=((length x1:Nat):Int))))=true then
  some ((),(false,()))
 else
  if(dY.pre4 (x0,(x1,((0:Int),()))))=true then
   letB (dY.fn4 (x0,(x1,((0:Int),())))) fun v1=>
   match v1 with
   |.inl y=>
    some ((),y)
   |.inr y=>
    some ((),(true,()))
  else
   none
theorem zE(x1 x2:List Int)(x3:Int)(hp:pre4 (x1,(x2,(x3,())))=true):Rounds pre4 qD fn4 (x1,(x2,(x3,()))) (hJ x1 x2 x3):=by
 unfold hJ
 by_cases hlt:x3<(x1.length:Int)
 . obtain⟨h1,h2,h3,h4⟩:=vD hp hlt (0:Int)
   simp only[letB,hlt,h1,h2,decide_true,if_true]
   by_cases h:x1.getD x3.toNat (0:Int)=x2.getD x3.toNat (0:Int)
   . rw[if_neg (by simp only[h,decide_true,Bool.not_true,Zj,not_false_eq_true])];exact h3 h
   . rw[if_pos (by simp only[h,decide_false,Bool.not_false])];exact h4 h
 . simp only[hlt,decide_false,Zj,if_false]
   exact zZ hp hlt
theorem eq(x0 x1:List Int)(hw:wf x0 x1):aR x0 x1=some ((),(dY x0 x1,())):=by
 have h1:x0.length<=maxLen:=hw.1.1
 unfold aR dY
 by_cases hl:(x0.length:Int)=(x1.length:Int)
 . rw[if_neg (by simp[hl]),if_pos (show pre4 _=true from sJ h1 hl)]
   unfold fn4
   by_cases he:x0=x1
   . rw[vN he,bV.2 he];rfl
   . rw[vO he,aQ.2 he];rfl
 . have:¬x0=x1:=fun h=>hl (by rw[h])
   rw[if_pos (by simp[hl]),aQ.2 this]
end dY
def bP(xs:List Int)(k:Int):List Int×Int:=(pF qJ bO xs k,k+bJ bO xs)
namespace bP
def pre(xs:List Int)(k:Int):Bool:=zW bO xs k
def pre2:=sN bO
def fn2:=aDr qJ bO
def kY:=aDW (α:=Int)
noncomputable def cW(x1:Int)(x2:Int)(x3:(List Int)):Option ((Int×(Int×tG))⊕(Int×tG)):=
 if(decide (x2<((length x3:Nat):Int)))=true then
 if(decide ((0:Int)<=x2))=true then
 if(decide (x2<((length x3:Nat):Int)))=true then
 some (.inl ((wrap .i64 (x1+(1:Int))),((wrap .i64 (x2+(1:Int))),((List.modify x3 (Int.toNat x2) (fun z=>x1)),()))))
 else
 none
 else
 none
 else
 some (.inr (x1,(x3,())))
abbrev wf(x0:(List Int))(x1:Int):Prop:=fW [(.mut (.sl 0 (.int .i64))),(.val (.int .i64) .f)] (x0,(x1,()))
noncomputable def aR(x0:(List Int))(x1:Int):Option (tG×(Int×Unit)):=
 if(bP.pre2 (x1,((0:Int),(x0,()))))=true then
 letB (bP.fn2 (x1,((0:Int),(x0,())))) fun v1=>
 some (v1.2,(v1.1,()))
 else
 none
theorem qO(x1 x2:Int)(x3:List Int)(hp:pre2 (x1,(x2,(x3,())))=true):Rounds pre2 kY fn2 (x1,(x2,(x3,()))) (cW x1 x2 x3):=by
 unfold cW
 by_cases hlt:x2<(x3.length:Int)
 . obtain⟨h0,hk,hc,hn⟩:=sM gP hp hlt (0:Int)
   generalize he:x3.getD x2.toNat (0:Int)=e at hc
   simp only[bO] at hc
   have w0:wrap .i64 (x1+1)=x1+1:=iV (by omega) (by omega)
   simp only[letB,List.length_modify,List.modify_modify_eq,pG hn,Function.comp,hlt,h0,he,decide_true,if_true,w0]
   exact xN gP hp hlt (0:Int) (by rw[he];simp only[bO]) (by rw[he];rfl)
 . rw[if_neg (by simp[hlt])];exact aAw hp hlt
theorem eq(x0:List Int)(x1:Int)(_:wf x0 x1)(hp:pre x0 x1=true):aR x0 x1=some (((bP x0 x1).1,()),((bP x0 x1).2,())):=by
 unfold aR
 rw[if_pos (show pre2 _=true from uI gP hp)]
 rfl
end bP
theorem aCU(xs:List Int)(k:Int):bP xs k=(pF qJ bO xs k,k+bJ bO xs):=rfl
theorem vR{xs:List Int}{k:Int}(h0:0<=k)(h1:k+bJ bO xs<=134217728):bP.pre xs k=true:=mL.2 ⟨h0,h1⟩
noncomputable def bK(xs:List Int)(k:Int):Int:=uZ (pF qJ bO) (bJ bO) xs k
namespace bK
def pre(xs:List Int)(k:Int):Bool:=zW bO xs k
def pre2:=rG bO
noncomputable def fn2:=aBG qJ bO
def kY:=aEv (α:=Int)
noncomputable def cW(x1:(List Int))(x2:Int)(x3:Int):Option (((List Int)×eN)⊕((Int×Unit)⊕(Int×Unit))):=
 if(decide (x3<((length x1:Nat):Int)))=true then
 if(decide ((0:Int)<=x3))=true then
 if(decide (x3<((length x1:Nat):Int)))=true then
 if(!(decide ((List.getD x1 (Int.toNat x3) (0:Int))=x2)))=true then
 some (.inr (.inl ((-1:Int),())))
 else
 some (.inl (x1,((wrap .i64 (x2+(1:Int))),((wrap .i64 (x3+(1:Int))),()))))
 else
 none
 else
 none
 else
 some (.inr (.inr (x2,())))
abbrev wf(x0:(List Int))(x1:Int):Prop:=fW [(.val (.sl 0 (.int .i64)) .f),(.val (.int .i64) .f)] (x0,(x1,()))
noncomputable def aR(x0:(List Int))(x1:Int):Option xT:=
 if(bK.pre2 (x0,(x1,((0:Int),()))))=true then
  letB (bK.fn2 (x0,(x1,((0:Int),())))) fun v1=>
  match v1 with
  |.inl y=>
   some ((),y)
  |.inr y=>
   some ((),y)
 else
  none
theorem qO(x1:List Int)(x2 x3:Int)(hp:pre2 (x1,(x2,(x3,())))=true):Rounds pre2 kY fn2 (x1,(x2,(x3,()))) (cW x1 x2 x3):=by
 unfold cW
 by_cases hlt:x3<(x1.length:Int)
 . obtain⟨h0,hk,hc⟩:=wU gP hp hlt (0:Int)
   have xX:=aBq (m:=qJ) (g:=bO) hp hlt (0:Int)
   have good:=fun K hK=>zM gP (K:=K) hp hlt (0:Int) hK
   generalize x1.getD x3.toNat (0:Int)=e at *
   simp only[bO] at hc
   have w0:wrap .i64 (x2+1)=x2+1:=iV (by omega) (by omega)
   simp only[letB,hlt,h0,decide_true,if_true,w0]
   by_cases c:e=x2
   case neg=>rw[if_pos (by simp[c])];exact xX c
   rw[if_neg (by simp[c])]
   exact good _ (by simp only[bO]) c
 . rw[if_neg (by simp[hlt])];exact aBz hp hlt
theorem eq(x0:List Int)(x1:Int)(_:wf x0 x1)(hp:pre x0 x1=true):aR x0 x1=some ((),(bK x0 x1,())):=by
 unfold aR
 rw[if_pos (show pre2 _=true from wV gP hp)]
 exact rV x0 x1
end bK
theorem vM{xs:List Int}{k:Int}(h:xs=pF qJ bO xs k):bK xs k=k+bJ bO xs:=mX h
theorem vS{xs:List Int}{k:Int}(h:¬xs=pF qJ bO xs k):bK xs k=-1:=kD h
theorem vE{xs:List Int}{k:Int}(h0:0<=k)(h1:k+bJ bO xs<=134217728):bK.pre xs k=true:=mL.2 ⟨h0,h1⟩
noncomputable def jQ(a b:List Int):Bool:=same a b
namespace jQ
def pre4:=sV (α:=Int)
noncomputable def fn4:=aA0 (α:=Int)
def qD:=aCF (α:=Int)
noncomputable def hJ(x1:(List Int))(x2:(List Int))(x3:Int):Option (((List Int)×((List Int)×(Int×Unit)))⊕((Bool×Unit)⊕Unit)):=
 if(decide (x3<((length x1:Nat):Int)))=true then
 if(decide ((0:Int)<=x3))=true then
 if(decide (x3<((length x1:Nat):Int)))=true then
 if(decide ((0:Int)<=x3))=true then
 if(decide (x3<((length x2:Nat):Int)))=true then
 if(!(decide ((List.getD x1 (Int.toNat x3) (0:Int))=(List.getD x2 (Int.toNat x3) (0:Int)))))=true then
 some (.inr (.inl (false,())))
 else
 some (.inl (x1,(x2,((wrap .i64 (x3+(1:Int))),()))))
 else
 none
 else
 none
 else
 none
 else
 none
 else
 some (.inr (.inr ()))
abbrev wf(x0:(List Int))(x1:(List Int)):Prop:=fW [(.val wM .f),(.val wM .f)] (x0,(x1,()))
noncomputable def aR(x0:(List Int))(x1:(List Int)):Option kZ:=
 if(!(decide (((length x0:Nat):Int)=((length x1:Nat):Int))))=true then
  some ((),(false,()))
 else
  if(jQ.pre4 (x0,(x1,((0:Int),()))))=true then
   letB (jQ.fn4 (x0,(x1,((0:Int),())))) fun v1=>
   match v1 with
   |.inl y=>
    some ((),y)
   |.inr y=>
    some ((),(true,()))
  else
   none
theorem zE(x1 x2:List Int)(x3:Int)(hp:pre4 (x1,(x2,(x3,())))=true):Rounds pre4 qD fn4 (x1,(x2,(x3,()))) (hJ x1 x2 x3):=by
 unfold hJ
 by_cases hlt:x3<(x1.length:Int)
 . obtain⟨h1,h2,h3,h4⟩:=vD hp hlt (0:Int)
   simp only[letB,hlt,h1,h2,decide_true,if_true]
   by_cases h:x1.getD x3.toNat (0:Int)=x2.getD x3.toNat (0:Int)
   . rw[if_neg (by simp only[h,decide_true,Bool.not_true,Zj,not_false_eq_true])];exact h3 h
   . rw[if_pos (by simp only[h,decide_false,Bool.not_false])];exact h4 h
 . simp only[hlt,decide_false,Zj,if_false]
   exact zZ hp hlt
theorem eq(x0 x1:List Int)(hw:wf x0 x1):aR x0 x1=some ((),(jQ x0 x1,())):=by
 have h1:x0.length<=maxLen:=hw.1.1
 unfold aR jQ
 by_cases hl:(x0.length:Int)=(x1.length:Int)
 . rw[if_neg (by simp[hl]),if_pos (show pre4 _=true from sJ h1 hl)]
   unfold fn4
   by_cases he:x0=x1
   . rw[vN he,bV.2 he];rfl
   . rw[vO he,aQ.2 he];rfl
 . have:¬x0=x1:=fun h=>hl (by rw[h])
   rw[if_pos (by simp[hl]),aQ.2 this]
end jQ
def eJ(xs:List Int):List Int:=xs
namespace eJ
def pre(xs:List Int):Bool:=dI xs&&xs.all (fun _=>true)
noncomputable def pre3:=aA3 (α:=Int) (fun _=>true)
def fn3:=aKQ (α:=Int)
def mu3:=aKF (α:=Int)
noncomputable def pK(x1:(List Int))(x2:Int)(x3:(List Int)):Option (((List Int)×(Int×tG))⊕tG):=
 if(decide (x2<((length x1:Nat):Int)))=true then
 if(decide ((0:Int)<=x2))=true then
 if(decide (x2<((length x1:Nat):Int)))=true then
 if(decide ((0:Int)<=x2))=true then
 if(decide (x2<((length x3:Nat):Int)))=true then
 some (.inl (x1,((wrap .i64 (x2+(1:Int))),((List.modify x3 (Int.toNat x2) (fun z=>(List.getD x1 (Int.toNat x2) (0:Int)))),()))))
 else
 none
 else
 none
 else
 none
 else
 none
 else
 some (.inr (x3,()))
abbrev wf(x0:(List Int)):Prop:=fW [(.val wM .f)] (x0,())
noncomputable def aR(x0:(List Int)):Option (Unit×tG):=
 if(decide ((0:Int)<=((length x0:Nat):Int)))=true then
 if(decide (((length x0:Nat):Int)<=((length x0:Nat):Int)))=true then
 if(decide (((length x0:Nat):Int)<=(4294967296:Int)))=true then
 if(eJ.pre3 (x0,((0:Int),((List.replicate (Int.toNat ((length x0:Nat):Int)) (0:Int)),()))))=true then
 letB (eJ.fn3 (x0,((0:Int),((List.replicate (Int.toNat ((length x0:Nat):Int)) (0:Int)),())))) fun v1=>
 some ((),v1)
 else
 none
 else
 none
 else
 none
 else
 none
theorem ok3(x1:List Int)(x2:Int)(x3:List Int)(hp:pre3 (x1,(x2,(x3,())))=true):Rounds pre3 mu3 fn3 (x1,(x2,(x3,()))) (pK x1 x2 x3):=by
 unfold pK
 by_cases hlt:x2<(x1.length:Int)
 . obtain⟨h1,h2,h3⟩:=aLK hp hlt (0:Int)
   simp only[letB,hlt,h1,h2,h3,decide_true,if_true]
   exact aNd hp hlt (0:Int) rfl
 . rw[if_neg (by simp[hlt])];exact aNP hp hlt
theorem eq(x0:List Int)(hw:wf x0)(hp:pre x0=true):aR x0=some ((),(eJ x0,())):=by
 have h1:x0.length<=maxLen:=hw.1.1
 simp only[pre,Zb,cC] at hp
 unfold aR
 rw[if_pos (by simp),if_pos (by simp),if_pos (by simp;omega),if_pos (show pre3 _=true from aMd h1 hp.2 _)]
 rfl
end eJ
theorem aIa{xs:List Int}(h:wL aIS xs<=16777216):eJ.pre xs=true:=by
 have hl:=aOi aL0 xs
 simp only[eJ.pre,Zb,cC]
 exact⟨by omega,by simp⟩
def eH(xs:List Int)(k:Int):List Int×Int:=(pF aDD oI xs k,k+bJ oI xs)
namespace eH
def pre(xs:List Int)(k:Int):Bool:=zW oI xs k
def pre2:=sN oI
def fn2:=aDr aDD oI
def kY:=aDW (α:=Int)
noncomputable def cW(x1:Int)(x2:Int)(x3:(List Int)):Option ((Int×(Int×tG))⊕(Int×tG)):=
 if(decide (x2<((length x3:Nat):Int)))=true then
 if(decide ((0:Int)<=x2))=true then
 if(decide (x2<((length x3:Nat):Int)))=true then
 some (.inl ((wrap .i64 (x1+(1:Int))),((wrap .i64 (x2+(1:Int))),((List.modify x3 (Int.toNat x2) (fun z=>(wrap .u8 x1))),()))))
 else
 none
 else
 none
 else
 some (.inr (x1,(x3,())))
abbrev wf(x0:(List Int))(x1:Int):Prop:=fW [(.mut wM),(.val (.int .i64) .f)] (x0,(x1,()))
noncomputable def aR(x0:(List Int))(x1:Int):Option (tG×(Int×Unit)):=
 if(eH.pre2 (x1,((0:Int),(x0,()))))=true then
 letB (eH.fn2 (x1,((0:Int),(x0,())))) fun v1=>
 some (v1.2,(v1.1,()))
 else
 none
theorem qO(x1 x2:Int)(x3:List Int)(hp:pre2 (x1,(x2,(x3,())))=true):Rounds pre2 kY fn2 (x1,(x2,(x3,()))) (cW x1 x2 x3):=by
 unfold cW
 by_cases hlt:x2<(x3.length:Int)
 . obtain⟨h0,hk,hc,hn⟩:=sM aBF hp hlt (0:Int)
   generalize he:x3.getD x2.toNat (0:Int)=e at hc
   simp only[oI] at hc
   have w0:wrap .i64 (x1+1)=x1+1:=iV (by omega) (by omega)
   simp only[letB,List.length_modify,List.modify_modify_eq,pG hn,Function.comp,hlt,h0,he,decide_true,if_true,w0]
   exact xN aBF hp hlt (0:Int) (by rw[he];simp only[oI]) (by rw[he];rfl)
 . rw[if_neg (by simp[hlt])];exact aAw hp hlt
theorem eq(x0:List Int)(x1:Int)(_:wf x0 x1)(hp:pre x0 x1=true):aR x0 x1=some (((eH x0 x1).1,()),((eH x0 x1).2,())):=by
 unfold aR
 rw[if_pos (show pre2 _=true from uI aBF hp)]
 rfl
end eH
theorem aGY(xs:List Int)(k:Int):eH xs k=(pF aDD oI xs k,k+bJ oI xs):=rfl
theorem aF3{xs:List Int}{k:Int}(h0:0<=k)(h1:k+bJ oI xs<=134217728):eH.pre xs k=true:=mL.2 ⟨h0,h1⟩
noncomputable def nC(a b:Cmd):Bool:=same a b
namespace nC
abbrev wf(x0:Cmd)(x1:Cmd):Prop:=fW [(.val aKt .f),(.val aKt .f)] (x0,(x1,()))
noncomputable def aR(x0:Cmd)(x1:Cmd):Option kZ:=
 if(!(decide (x0.1=x1.1)))=true then
 some ((),(false,()))
 else
 if(!(decide (x0.2.1=x1.2.1)))=true then
 some ((),(false,()))
 else
 if(!(decide (x0.2.2.1=x1.2.2.1)))=true then
 some ((),(false,()))
 else
 if(!(decide (x0.2.2.2.1=x1.2.2.2.1)))=true then
 some ((),(false,()))
 else
 if(!(decide (x0.2.2.2.2.1=x1.2.2.2.2.1)))=true then
 some ((),(false,()))
 else
 if(!(decide (x0.2.2.2.2.2.1=x1.2.2.2.2.2.1)))=true then
 some ((),(false,()))
 else
 if(!(x0.2.2.2.2.2.2.1==x1.2.2.2.2.2.2.1))=true then
 some ((),(false,()))
 else
 if(!(x0.2.2.2.2.2.2.2.1==x1.2.2.2.2.2.2.2.1))=true then
 some ((),(false,()))
 else
 some ((),(true,()))
theorem eq(x0 x1:Cmd)(_:wf x0 x1):aR x0 x1=some ((),(nC x0 x1,())):=by
 unfold aR nC
 try simp only[letB]
 by_cases c0:x0.1=x1.1
 case neg=>rw[if_pos (by simp[c0]),aQ.2 (fun h=>c0 (congrArg (fun z:Cmd=>z.1) h))]
 rw[if_neg (by simp[c0])]
 by_cases c1:x0.2.1=x1.2.1
 case neg=>rw[if_pos (by simp[c1]),aQ.2 (fun h=>c1 (congrArg (fun z:Cmd=>z.2.1) h))]
 rw[if_neg (by simp[c1])]
 by_cases c2:x0.2.2.1=x1.2.2.1
 case neg=>rw[if_pos (by simp[c2]),aQ.2 (fun h=>c2 (congrArg (fun z:Cmd=>z.2.2.1) h))]
 rw[if_neg (by simp[c2])]
 by_cases c3:x0.2.2.2.1=x1.2.2.2.1
 case neg=>rw[if_pos (by simp[c3]),aQ.2 (fun h=>c3 (congrArg (fun z:Cmd=>z.2.2.2.1) h))]
 rw[if_neg (by simp[c3])]
 by_cases c4:x0.2.2.2.2.1=x1.2.2.2.2.1
 case neg=>rw[if_pos (by simp[c4]),aQ.2 (fun h=>c4 (congrArg (fun z:Cmd=>z.2.2.2.2.1) h))]
 rw[if_neg (by simp[c4])]
 by_cases c5:x0.2.2.2.2.2.1=x1.2.2.2.2.2.1
 case neg=>rw[if_pos (by simp[c5]),aQ.2 (fun h=>c5 (congrArg (fun z:Cmd=>z.2.2.2.2.2.1) h))]
 rw[if_neg (by simp[c5])]
 by_cases c6:x0.2.2.2.2.2.2.1=x1.2.2.2.2.2.2.1
 case neg=>rw[if_pos (by simp[c6]),aQ.2 (fun h=>c6 (congrArg (fun z:Cmd=>z.2.2.2.2.2.2.1) h))]
 rw[if_neg (by simp[c6])]
 by_cases c7:x0.2.2.2.2.2.2.2.1=x1.2.2.2.2.2.2.2.1
 case neg=>rw[if_pos (by simp[c7]),aQ.2 (fun h=>c7 (congrArg (fun z:Cmd=>z.2.2.2.2.2.2.2.1) h))]
 rw[if_neg (by simp[c7])]
 rw[bV.2 (Prod.ext c0 (Prod.ext c1 (Prod.ext c2 (Prod.ext c3 (Prod.ext c4 (Prod.ext c5 (Prod.ext c6 (Prod.ext c7 rfl))))))))]
end nC
noncomputable def kM(a b:aL):Bool:=same a b
namespace kM
abbrev wf(x0:aL)(x1:aL):Prop:=fW [(.val zk2 .f),(.val zk2 .f)] (x0,(x1,()))
noncomputable def aR(x0:aL)(x1:aL):Option kZ:=
 if(!(decide (x0.1=x1.1)))=true then
 some ((),(false,()))
 else
 letB (nC x0.2.1 x1.2.1) fun v1=>
 if(!v1)=true then
 some ((),(false,()))
 else
 some ((),(true,()))
theorem eq(x0 x1:aL)(_:wf x0 x1):aR x0 x1=some ((),(kM x0 x1,())):=by
 unfold aR kM
 try simp only[letB]
 by_cases c0:x0.1=x1.1
 case neg=>rw[if_pos (by simp[c0]),aQ.2 (fun h=>c0 (congrArg (fun z:aL=>z.1) h))]
 rw[if_neg (by simp[c0])]
 by_cases c1:x0.2.1=x1.2.1
 case neg=>rw[if_pos (by rw[nC,aQ.2 c1];rfl),aQ.2 (fun h=>c1 (congrArg (fun z:aL=>z.2.1) h))]
 rw[if_neg (by rw[nC,bV.2 c1];simp)]
 rw[bV.2 (Prod.ext c0 (Prod.ext c1 rfl))]
end kM
noncomputable def hY(a b:List aL):Bool:=same a b
namespace hY
def pre4:=sV (α:=aL)
noncomputable def fn4:=aA0 (α:=aL)
def qD:=aCF (α:=aL)
noncomputable def hJ(x1:(List aL))(x2:(List aL))(x3:Int):Option (((List aL)×((List aL)×(Int×Unit)))⊕((Bool×Unit)⊕Unit)):=
 if(decide (x3<((length x1:Nat):Int)))=true then
 if(decide ((0:Int)<=x3))=true then
 if(decide (x3<((length x1:Nat):Int)))=true then
 if(decide ((0:Int)<=x3))=true then
 if(decide (x3<((length x2:Nat):Int)))=true then
 letB (kM (List.getD x1 (Int.toNat x3) wX) (List.getD x2 (Int.toNat x3) wX)) fun v1=>
 if(!v1)=true then
 some (.inr (.inl (false,())))
 else
 some (.inl (x1,(x2,((wrap .i64 (x3+(1:Int))),()))))
 else
 none
 else
 none
 else
 none
 else
 none
 else
 some (.inr (.inr ()))
abbrev wf(x0:(List aL))(x1:(List aL)):Prop:=fW [(.val (.sl 0 zk2) .f),(.val (.sl 0 zk2) .f)] (x0,(x1,()))
noncomputable def aR(x0:(List aL))(x1:(List aL)):Option kZ:=
 if(!(decide (((length x0:Nat):Int)=((length x1:Nat):Int))))=true then
  some ((),(false,()))
 else
  if(hY.pre4 (x0,(x1,((0:Int),()))))=true then
   letB (hY.fn4 (x0,(x1,((0:Int),())))) fun v1=>
   match v1 with
   |.inl y=>
    some ((),y)
   |.inr y=>
    some ((),(true,()))
  else
   none
theorem zE(x1 x2:List aL)(x3:Int)(hp:pre4 (x1,(x2,(x3,())))=true):Rounds pre4 qD fn4 (x1,(x2,(x3,()))) (hJ x1 x2 x3):=by
 unfold hJ
 by_cases hlt:x3<(x1.length:Int)
 . obtain⟨h1,h2,h3,h4⟩:=vD hp hlt wX
   simp only[letB,hlt,h1,h2,decide_true,if_true]
   by_cases h:x1.getD x3.toNat wX=x2.getD x3.toNat wX
   . rw[if_neg (by rw[kM,bV.2 h];simp)];exact h3 h
   . rw[if_pos (by rw[kM,aQ.2 h];rfl)];exact h4 h
 . simp only[hlt,decide_false,Zj,if_false]
   exact zZ hp hlt
theorem eq(x0 x1:List aL)(hw:wf x0 x1):aR x0 x1=some ((),(hY x0 x1,())):=by
 have h1:x0.length<=maxLen:=hw.1.1
 unfold aR hY
 by_cases hl:(x0.length:Int)=(x1.length:Int)
 . rw[if_neg (by simp[hl]),if_pos (show pre4 _=true from sJ h1 hl)]
   unfold fn4
   by_cases he:x0=x1
   . rw[vN he,bV.2 he];rfl
   . rw[vO he,aQ.2 he];rfl
 . have:¬x0=x1:=fun h=>hl (by rw[h])
   rw[if_pos (by simp[hl]),aQ.2 this]
end hY
def wW(_:aL)(k:Int):aL:=mE k
def lI(_:aL):Int:=9
theorem uF:aA1 wW lI:=⟨fun _=>by simp only[lI];decide,fun _ _=>rfl,fun _ _=>rfl⟩
theorem aB5:(xs:List aL)->(k:Int)->pF wW lI xs k=qH xs.length k
 |[],_=>rfl
 |a::r,k=>by
  simp only[pF,Zg,qH,aB5 r]
  rw[show k+lI a=k+1+1+1+1+1+1+1+1+1 by simp only[lI];omega]
  rfl
theorem wT:(xs:List aL)->bJ lI xs=9*xs.length
 |[]=>rfl
 |a::r=>by simp only[bJ,lI,wT r,Zg];omega
theorem aAN{xs:List aL}{k:Int}(h0:0<=k)(h1:k+bJ lI xs<=134217728):cB.pre xs k=true:=by
 rw[wT] at h1
 simp only[cB.pre,Zb,Za,cC];omega
theorem aBh(xs:List aL)(k:Int):cX xs k=uZ (pF wW lI) (bJ lI) xs k:=by
 unfold cX
 by_cases h:xs=pF wW lI xs k
 . rw[mX h,wT,if_pos (by rw[<-aB5];exact h)]
 . rw[kD h,if_neg (by rw[<-aB5];exact h)]
theorem aEK{xs:List aL}{k:Int}(h:xs=pF wW lI xs k):cX xs k=k+bJ lI xs:=by rw[aBh];exact mX h
theorem aEB{xs:List aL}{k:Int}(h:¬xs=pF wW lI xs k):cX xs k=-1:=by rw[aBh];exact kD h
def rT(x:iT)(k:Int):iT:=(x.1,(x.2.1,(pF wW lI x.2.2.1 (k),())))
def iU(x:iT):Int:=bJ lI x.2.2.1
theorem aAm(x:iT):0<=iU x:=by
 have n2:=gQ uF x.2.2.1
 simp only[iU];omega
theorem aC8(x:iT)(k:Int):iU (rT x k)=iU x:=by simp only[iU,rT,lC uF]
theorem aGp(x:iT)(k:Int):rT (rT x k) k=rT x k:=by simp only[rT,lC uF,uC uF]
theorem aIX(x:iT)(k:Int):gW x k=(rT x k,k+iU x):=by
 simp only[rT,iU,aB5,wT];rfl
theorem aGJ{x:iT}{k:Int}(h0:0<=k)(h1:k+iU x<=134217728):gW.pre x k=true:=aAN h0 h1
theorem aG9{x:iT}{k:Int}(h0:0<=k)(h1:k+iU x<=134217728):eY.pre x k=true:=aAN h0 h1
theorem aI7{x:iT}{k:Int}(h:x=rT x k)(h0:0<=k):eY x k=k+iU x:=by
 have h2:=aEK (xs:=x.2.2.1) (k:=k) (congrArg (fun z:iT=>z.2.2.1) h)
 have h3:=gQ uF x.2.2.1
 unfold eY
 simp only[h2,iU]
 rw[if_neg (by omega)]
theorem aIi{x:iT}{k:Int}(h:¬x=rT x k):eY x k=-1:=by
 have h2:=aEB (xs:=x.2.2.1) (k:=k) (fun g=>h (Prod.ext rfl (Prod.ext rfl (Prod.ext g rfl))))
 unfold eY
 simp only[h2]
 rfl
noncomputable def nD(a b:iT):Bool:=same a b
namespace nD
abbrev wf(x0:iT)(x1:iT):Prop:=fW [(.val aAi .f),(.val aAi .f)] (x0,(x1,()))
noncomputable def aR(x0:iT)(x1:iT):Option kZ:=
 if(!(decide (x0.1=x1.1)))=true then
 some ((),(false,()))
 else
 if(!(decide (x0.2.1=x1.2.1)))=true then
 some ((),(false,()))
 else
 letB (hY x0.2.2.1 x1.2.2.1) fun v1=>
 if(!v1)=true then
 some ((),(false,()))
 else
 some ((),(true,()))
theorem eq(x0 x1:iT)(_:wf x0 x1):aR x0 x1=some ((),(nD x0 x1,())):=by
 unfold aR nD
 try simp only[letB]
 by_cases c0:x0.1=x1.1
 case neg=>rw[if_pos (by simp[c0]),aQ.2 (fun h=>c0 (congrArg (fun z:iT=>z.1) h))]
 rw[if_neg (by simp[c0])]
 by_cases c1:x0.2.1=x1.2.1
 case neg=>rw[if_pos (by simp[c1]),aQ.2 (fun h=>c1 (congrArg (fun z:iT=>z.2.1) h))]
 rw[if_neg (by simp[c1])]
 by_cases c2:x0.2.2.1=x1.2.2.1
 case neg=>rw[if_pos (by rw[hY,aQ.2 c2];rfl),aQ.2 (fun h=>c2 (congrArg (fun z:iT=>z.2.2.1) h))]
 rw[if_neg (by rw[hY,bV.2 c2];simp)]
 rw[bV.2 (Prod.ext c0 (Prod.ext c1 (Prod.ext c2 rfl)))]
end nD
def sY(_:eN)(k:Int):eN:=(k,(k+1,()))
def gE(_:eN):Int:=2
theorem mZ:aA1 sY gE:=⟨fun _=>by simp only[gE];decide,fun _ _=>rfl,fun _ _=>rfl⟩
noncomputable def lM(a b:eN):Bool:=same a b
namespace lM
abbrev wf(x0:eN)(x1:eN):Prop:=fW [(.val zk9 .f),(.val zk9 .f)] (x0,(x1,()))
noncomputable def aR(x0:eN)(x1:eN):Option kZ:=
 if(!(decide (x0.1=x1.1)))=true then
 some ((),(false,()))
 else
 if(!(decide (x0.2.1=x1.2.1)))=true then
 some ((),(false,()))
 else
 some ((),(true,()))
theorem eq(x0 x1:eN)(_:wf x0 x1):aR x0 x1=some ((),(lM x0 x1,())):=by
 unfold aR lM
 try simp only[letB]
 by_cases c0:x0.1=x1.1
 case neg=>rw[if_pos (by simp[c0]),aQ.2 (fun h=>c0 (congrArg (fun z:eN=>z.1) h))]
 rw[if_neg (by simp[c0])]
 by_cases c1:x0.2.1=x1.2.1
 case neg=>rw[if_pos (by simp[c1]),aQ.2 (fun h=>c1 (congrArg (fun z:eN=>z.2.1) h))]
 rw[if_neg (by simp[c1])]
 rw[bV.2 (Prod.ext c0 (Prod.ext c1 rfl))]
end lM
noncomputable def iP(a b:List eN):Bool:=same a b
namespace iP
def pre4:=sV (α:=eN)
noncomputable def fn4:=aA0 (α:=eN)
def qD:=aCF (α:=eN)
noncomputable def hJ(x1:(List eN))(x2:(List eN))(x3:Int):Option (((List eN)×((List eN)×(Int×Unit)))⊕((Bool×Unit)⊕Unit)):=
 if(decide (x3<((length x1:Nat):Int)))=true then
 if(decide ((0:Int)<=x3))=true then
 if(decide (x3<((length x1:Nat):Int)))=true then
 if(decide ((0:Int)<=x3))=true then
 if(decide (x3<((length x2:Nat):Int)))=true then
 letB (lM (List.getD x1 (Int.toNat x3) nW) (List.getD x2 (Int.toNat x3) nW)) fun v1=>
 if(!v1)=true then
 some (.inr (.inl (false,())))
 else
 some (.inl (x1,(x2,((wrap .i64 (x3+(1:Int))),()))))
 else
 none
 else
 none
 else
 none
 else
 none
 else
 some (.inr (.inr ()))
abbrev wf(x0:(List eN))(x1:(List eN)):Prop:=fW [(.val (.sl 0 zk9) .f),(.val (.sl 0 zk9) .f)] (x0,(x1,()))
noncomputable def aR(x0:(List eN))(x1:(List eN)):Option kZ:=
 if(!(decide (((length x0:Nat):Int)=((length x1:Nat):Int))))=true then
  some ((),(false,()))
 else
  if(iP.pre4 (x0,(x1,((0:Int),()))))=true then
   letB (iP.fn4 (x0,(x1,((0:Int),())))) fun v1=>
   match v1 with
   |.inl y=>
    some ((),y)
   |.inr y=>
    some ((),(true,()))
  else
   none
theorem zE(x1 x2:List eN)(x3:Int)(hp:pre4 (x1,(x2,(x3,())))=true):Rounds pre4 qD fn4 (x1,(x2,(x3,()))) (hJ x1 x2 x3):=by
 unfold hJ
 by_cases hlt:x3<(x1.length:Int)
 . obtain⟨h1,h2,h3,h4⟩:=vD hp hlt nW
   simp only[letB,hlt,h1,h2,decide_true,if_true]
   by_cases h:x1.getD x3.toNat nW=x2.getD x3.toNat nW
   . rw[if_neg (by rw[lM,bV.2 h];simp)];exact h3 h
   . rw[if_pos (by rw[lM,aQ.2 h];rfl)];exact h4 h
 . simp only[hlt,decide_false,Zj,if_false]
   exact zZ hp hlt
theorem eq(x0 x1:List eN)(hw:wf x0 x1):aR x0 x1=some ((),(iP x0 x1,())):=by
 have h1:x0.length<=maxLen:=hw.1.1
 unfold aR iP
 by_cases hl:(x0.length:Int)=(x1.length:Int)
 . rw[if_neg (by simp[hl]),if_pos (show pre4 _=true from sJ h1 hl)]
   unfold fn4
   by_cases he:x0=x1
   . rw[vN he,bV.2 he];rfl
   . rw[vO he,aQ.2 he];rfl
 . have:¬x0=x1:=fun h=>hl (by rw[h])
   rw[if_pos (by simp[hl]),aQ.2 this]
end iP
def eF(xs:List eN)(k:Int):List eN×Int:=(pF sY gE xs k,k+bJ gE xs)
namespace eF
def pre(xs:List eN)(k:Int):Bool:=zW gE xs k
def pre2:=sN gE
def fn2:=aDr sY gE
def kY:=aDW (α:=eN)
noncomputable def cW(x1:Int)(x2:Int)(x3:(List eN)):Option ((Int×(Int×((List eN)×Unit)))⊕(Int×((List eN)×Unit))):=
 if(decide (x2<((length x3:Nat):Int)))=true then
 if(decide ((0:Int)<=x2))=true then
 if(decide (x2<((length x3:Nat):Int)))=true then
 if(decide ((0:Int)<=x2))=true then
 if(decide (x2<((length (List.modify x3 (Int.toNat x2) (fun z=>(x1,z.2))):Nat):Int)))=true then
 some (.inl ((wrap .i64 ((wrap .i64 (x1+(1:Int)))+(1:Int))),((wrap .i64 (x2+(1:Int))),((List.modify (List.modify x3 (Int.toNat x2) (fun z=>(x1,z.2))) (Int.toNat x2) (fun z=>(z.1,((wrap .i64 (x1+(1:Int))),z.2.2)))),()))))
 else
 none
 else
 none
 else
 none
 else
 none
 else
 some (.inr (x1,(x3,())))
abbrev wf(x0:(List eN))(x1:Int):Prop:=fW [(.mut (.sl 0 zk9)),(.val (.int .i64) .f)] (x0,(x1,()))
noncomputable def aR(x0:(List eN))(x1:Int):Option (((List eN)×Unit)×(Int×Unit)):=
 if(eF.pre2 (x1,((0:Int),(x0,()))))=true then
 letB (eF.fn2 (x1,((0:Int),(x0,())))) fun v1=>
 some (v1.2,(v1.1,()))
 else
 none
theorem qO(x1 x2:Int)(x3:List eN)(hp:pre2 (x1,(x2,(x3,())))=true):Rounds pre2 kY fn2 (x1,(x2,(x3,()))) (cW x1 x2 x3):=by
 unfold cW
 by_cases hlt:x2<(x3.length:Int)
 . obtain⟨h0,hk,hc,hn⟩:=sM mZ hp hlt nW
   generalize he:x3.getD x2.toNat nW=e at hc
   simp only[gE] at hc
   have w0:wrap .i64 (x1+1)=x1+1:=iV (by omega) (by omega)
   have w1:wrap .i64 (x1+1+1)=x1+1+1:=iV (by omega) (by omega)
   simp only[letB,List.length_modify,List.modify_modify_eq,pG hn,Function.comp,hlt,h0,he,decide_true,if_true,w0,w1]
   exact xN mZ hp hlt nW (by rw[he];simp only[gE];omega) (by rw[he];rfl)
 . rw[if_neg (by simp[hlt])];exact aAw hp hlt
theorem eq(x0:List eN)(x1:Int)(_:wf x0 x1)(hp:pre x0 x1=true):aR x0 x1=some (((eF x0 x1).1,()),((eF x0 x1).2,())):=by
 unfold aR
 rw[if_pos (show pre2 _=true from uI mZ hp)]
 rfl
end eF
theorem aGe(xs:List eN)(k:Int):eF xs k=(pF sY gE xs k,k+bJ gE xs):=rfl
theorem aF8{xs:List eN}{k:Int}(h0:0<=k)(h1:k+bJ gE xs<=134217728):eF.pre xs k=true:=mL.2 ⟨h0,h1⟩
noncomputable def dU(xs:List eN)(k:Int):Int:=uZ (pF sY gE) (bJ gE) xs k
namespace dU
def pre(xs:List eN)(k:Int):Bool:=zW gE xs k
def pre2:=rG gE
noncomputable def fn2:=aBG sY gE
def kY:=aEv (α:=eN)
noncomputable def cW(x1:(List eN))(x2:Int)(x3:Int):Option (((List eN)×eN)⊕((Int×Unit)⊕(Int×Unit))):=
 if(decide (x3<((length x1:Nat):Int)))=true then
 if(decide ((0:Int)<=x3))=true then
 if(decide (x3<((length x1:Nat):Int)))=true then
 if(!(decide ((List.getD x1 (Int.toNat x3) nW).1=x2)))=true then
 some (.inr (.inl ((-1:Int),())))
 else
 if(decide ((0:Int)<=x3))=true then
 if(decide (x3<((length x1:Nat):Int)))=true then
 if(!(decide ((List.getD x1 (Int.toNat x3) nW).2.1=(wrap .i64 (x2+(1:Int))))))=true then
 some (.inr (.inl ((-1:Int),())))
 else
 some (.inl (x1,((wrap .i64 ((wrap .i64 (x2+(1:Int)))+(1:Int))),((wrap .i64 (x3+(1:Int))),()))))
 else
 none
 else
 none
 else
 none
 else
 none
 else
 some (.inr (.inr (x2,())))
abbrev wf(x0:(List eN))(x1:Int):Prop:=fW [(.val (.sl 0 zk9) .f),(.val (.int .i64) .f)] (x0,(x1,()))
noncomputable def aR(x0:(List eN))(x1:Int):Option xT:=
 if(dU.pre2 (x0,(x1,((0:Int),()))))=true then
  letB (dU.fn2 (x0,(x1,((0:Int),())))) fun v1=>
  match v1 with
  |.inl y=>
   some ((),y)
  |.inr y=>
   some ((),y)
 else
  none
theorem qO(x1:List eN)(x2 x3:Int)(hp:pre2 (x1,(x2,(x3,())))=true):Rounds pre2 kY fn2 (x1,(x2,(x3,()))) (cW x1 x2 x3):=by
 unfold cW
 by_cases hlt:x3<(x1.length:Int)
 . obtain⟨h0,hk,hc⟩:=wU mZ hp hlt nW
   have xX:=aBq (m:=sY) (g:=gE) hp hlt nW
   have good:=fun K hK=>zM mZ (K:=K) hp hlt nW hK
   generalize x1.getD x3.toNat nW=e at *
   simp only[gE] at hc
   have w0:wrap .i64 (x2+1)=x2+1:=iV (by omega) (by omega)
   have w1:wrap .i64 (x2+1+1)=x2+1+1:=iV (by omega) (by omega)
   simp only[letB,hlt,h0,decide_true,if_true,w0,w1]
   by_cases c0:e.1=x2
   case neg=>rw[if_pos (by simp[c0])];exact xX fun h=>c0 (congrArg (fun z:eN=>z.1) h)
   rw[if_neg (by simp[c0])]
   by_cases c1:e.2.1=x2+1
   case neg=>rw[if_pos (by simp[c1])];exact xX fun h=>c1 (congrArg (fun z:eN=>z.2.1) h)
   rw[if_neg (by simp[c1])]
   exact good _ (by simp only[gE];omega) (Prod.ext c0 (Prod.ext c1 rfl))
 . rw[if_neg (by simp[hlt])];exact aBz hp hlt
theorem eq(x0:List eN)(x1:Int)(_:wf x0 x1)(hp:pre x0 x1=true):aR x0 x1=some ((),(dU x0 x1,())):=by
 unfold aR
 rw[if_pos (show pre2 _=true from wV mZ hp)]
 exact rV x0 x1
end dU
theorem aFe{xs:List eN}{k:Int}(h:xs=pF sY gE xs k):dU xs k=k+bJ gE xs:=mX h
theorem aFf{xs:List eN}{k:Int}(h:¬xs=pF sY gE xs k):dU xs k=-1:=kD h
theorem aF4{xs:List eN}{k:Int}(h0:0<=k)(h1:k+bJ gE xs<=134217728):dU.pre xs k=true:=mL.2 ⟨h0,h1⟩
def sK(_:eO)(k:Int):eO:=(k,(aE (k+1),(aE (k+1+1),(k+1+1+1,(k+1+1+1+1,())))))
def gF(_:eO):Int:=5
theorem nB:aA1 sK gF:=⟨fun _=>by simp only[gF];decide,fun _ _=>rfl,fun _ _=>rfl⟩
noncomputable def lP(a b:eO):Bool:=same a b
namespace lP
abbrev wf(x0:eO)(x1:eO):Prop:=fW [(.val aHG .f),(.val aHG .f)] (x0,(x1,()))
noncomputable def aR(x0:eO)(x1:eO):Option kZ:=
 if(!(decide (x0.1=x1.1)))=true then
 some ((),(false,()))
 else
 if(!(x0.2.1==x1.2.1))=true then
 some ((),(false,()))
 else
 if(!(x0.2.2.1==x1.2.2.1))=true then
 some ((),(false,()))
 else
 if(!(decide (x0.2.2.2.1=x1.2.2.2.1)))=true then
 some ((),(false,()))
 else
 if(!(decide (x0.2.2.2.2.1=x1.2.2.2.2.1)))=true then
 some ((),(false,()))
 else
 some ((),(true,()))
theorem eq(x0 x1:eO)(_:wf x0 x1):aR x0 x1=some ((),(lP x0 x1,())):=by
 unfold aR lP
 try simp only[letB]
 by_cases c0:x0.1=x1.1
 case neg=>rw[if_pos (by simp[c0]),aQ.2 (fun h=>c0 (congrArg (fun z:eO=>z.1) h))]
 rw[if_neg (by simp[c0])]
 by_cases c1:x0.2.1=x1.2.1
 case neg=>rw[if_pos (by simp[c1]),aQ.2 (fun h=>c1 (congrArg (fun z:eO=>z.2.1) h))]
 rw[if_neg (by simp[c1])]
 by_cases c2:x0.2.2.1=x1.2.2.1
 case neg=>rw[if_pos (by simp[c2]),aQ.2 (fun h=>c2 (congrArg (fun z:eO=>z.2.2.1) h))]
 rw[if_neg (by simp[c2])]
 by_cases c3:x0.2.2.2.1=x1.2.2.2.1
 case neg=>rw[if_pos (by simp[c3]),aQ.2 (fun h=>c3 (congrArg (fun z:eO=>z.2.2.2.1) h))]
 rw[if_neg (by simp[c3])]
 by_cases c4:x0.2.2.2.2.1=x1.2.2.2.2.1
 case neg=>rw[if_pos (by simp[c4]),aQ.2 (fun h=>c4 (congrArg (fun z:eO=>z.2.2.2.2.1) h))]
 rw[if_neg (by simp[c4])]
 rw[bV.2 (Prod.ext c0 (Prod.ext c1 (Prod.ext c2 (Prod.ext c3 (Prod.ext c4 rfl)))))]
end lP
noncomputable def iQ(a b:List eO):Bool:=same a b
namespace iQ
def pre4:=sV (α:=eO)
noncomputable def fn4:=aA0 (α:=eO)
def qD:=aCF (α:=eO)
noncomputable def hJ(x1:(List eO))(x2:(List eO))(x3:Int):Option (((List eO)×((List eO)×(Int×Unit)))⊕((Bool×Unit)⊕Unit)):=
 if(decide (x3<((length x1:Nat):Int)))=true then
 if(decide ((0:Int)<=x3))=true then
 if(decide (x3<((length x1:Nat):Int)))=true then
 if(decide ((0:Int)<=x3))=true then
 if(decide (x3<((length x2:Nat):Int)))=true then
 letB (lP (List.getD x1 (Int.toNat x3) vZ) (List.getD x2 (Int.toNat x3) vZ)) fun v1=>
 if(!v1)=true then
 some (.inr (.inl (false,())))
 else
 some (.inl (x1,(x2,((wrap .i64 (x3+(1:Int))),()))))
 else
 none
 else
 none
 else
 none
 else
 none
 else
 some (.inr (.inr ()))
abbrev wf(x0:(List eO))(x1:(List eO)):Prop:=fW [(.val (.sl 0 aHG) .f),(.val (.sl 0 aHG) .f)] (x0,(x1,()))
noncomputable def aR(x0:(List eO))(x1:(List eO)):Option kZ:=
 if(!(decide (((length x0:Nat):Int)=((length x1:Nat):Int))))=true then
  some ((),(false,()))
 else
  if(iQ.pre4 (x0,(x1,((0:Int),()))))=true then
   letB (iQ.fn4 (x0,(x1,((0:Int),())))) fun v1=>
   match v1 with
   |.inl y=>
    some ((),y)
   |.inr y=>
    some ((),(true,()))
  else
   none
theorem zE(x1 x2:List eO)(x3:Int)(hp:pre4 (x1,(x2,(x3,())))=true):Rounds pre4 qD fn4 (x1,(x2,(x3,()))) (hJ x1 x2 x3):=by
 unfold hJ
 by_cases hlt:x3<(x1.length:Int)
 . obtain⟨h1,h2,h3,h4⟩:=vD hp hlt vZ
   simp only[letB,hlt,h1,h2,decide_true,if_true]
   by_cases h:x1.getD x3.toNat vZ=x2.getD x3.toNat vZ
   . rw[if_neg (by rw[lP,bV.2 h];simp)];exact h3 h
   . rw[if_pos (by rw[lP,aQ.2 h];rfl)];exact h4 h
 . simp only[hlt,decide_false,Zj,if_false]
   exact zZ hp hlt
theorem eq(x0 x1:List eO)(hw:wf x0 x1):aR x0 x1=some ((),(iQ x0 x1,())):=by
 have h1:x0.length<=maxLen:=hw.1.1
 unfold aR iQ
 by_cases hl:(x0.length:Int)=(x1.length:Int)
 . rw[if_neg (by simp[hl]),if_pos (show pre4 _=true from sJ h1 hl)]
   unfold fn4
   by_cases he:x0=x1
   . rw[vN he,bV.2 he];rfl
   . rw[vO he,aQ.2 he];rfl
 . have:¬x0=x1:=fun h=>hl (by rw[h])
   rw[if_pos (by simp[hl]),aQ.2 this]
end iQ
def eG(xs:List eO)(k:Int):List eO×Int:=(pF sK gF xs k,k+bJ gF xs)
end Go.Aw.Pl
