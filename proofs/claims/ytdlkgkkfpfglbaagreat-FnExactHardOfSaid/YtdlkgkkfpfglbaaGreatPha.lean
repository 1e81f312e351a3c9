import Derived.Test.YtdlkgkkfpfglbaaGreatAxM
namespace Go.Aw.Pl
open Go.IntKind (wrap)
open List (length)
open Go Go.Aw
set_option linter.unusedVariables false
set_option linter.unusedSimpArgs false
set_option maxHeartbeats 1000000
abbrev eQ:=(Int×(Int×Unit))
abbrev aW:=(Int×(Int×eQ))
abbrev eS:=(Int×((List UInt8)×((List UInt8)×eQ)))
abbrev cL:=(Int×(Int×((List eS)×Unit)))
abbrev aK:=(Int×(Int×(Int×(Int×((List eQ)×Unit)))))
abbrev aM:=(Int×(Int×((List UInt8)×((List UInt8)×Unit))))
abbrev Cmd:=(Int×(Int×(Int×(Int×aM))))
abbrev aL:=(Int×(Cmd×Unit))
abbrev iQ:=(Int×(Int×((List aL)×Unit)))
abbrev aJ:=(Int×((List Int)×((List Int)×((List Int)×Unit))))
abbrev eF:=(Int×(Int×(Int×(Int×((List aL)×((List UInt8)×Unit))))))
abbrev bI:=((List cL)×((List aK)×((List aJ)×(Int×((List Int)×((List aM)×Unit))))))
abbrev jV:=(Int×(Int×(iQ×(bI×Unit))))
abbrev rF:=((0:Int),((0:Int),((0:Int),((0:Int),(([]:List eQ),())))))
abbrev vB:=((0:Int),(([]:List Int),(([]:List Int),(([]:List Int),()))))
abbrev zk9:Ty:=(.pair (.int .i64) (.pair (.int .i64) .unit))
abbrev aDl:Type:=(Int×(Unit×((List cL)×((List aK)×((List aJ)×((List Int)×((List aM)×Unit)))))))
abbrev zt3:Type:=(Int×(Unit×((List cL)×((List aK)×((List aJ)×((List Int)×((List aM)×aDl)))))))
abbrev sI:=((0:Int),((0:Int),(([]:List UInt8),(([]:List UInt8),()))))
abbrev wX:=((0:Int),(((0:Int),((0:Int),((0:Int),((0:Int),sI)))),()))
abbrev oS:=((0:Int),((0:Int),(([]:List eS),())))
abbrev aAk:Ty:=(.pair (.int .i64) (.pair (.sl 0 (.int .i64)) (.pair (.sl 0 (.int .i64)) (.pair (.sl 0 (.int .i64)) .unit))))
abbrev aCs:=(([]:List cL),(([]:List aK),(([]:List aJ),((0:Int),(([]:List Int),(([]:List aM),()))))))
abbrev aBe:=((0:Int),((0:Int),((0:Int),((0:Int),(([]:List aL),(([]:List UInt8),()))))))
abbrev aBA:Ty:=(.pair (.int .i64) (.pair (.int .i64) (.pair (.int .i64) (.pair (.int .i64) (.pair (.sl 0 zk9) .unit)))))
abbrev lA:Type:=(Unit×(Bool×Unit))
abbrev aMp:Type:=(Int×(aW×(Int×(Int×(Int×(Int×(Unit×(Int×(Unit×(Unit×((List aL)×((List cL)×((List aK)×((List aJ)×((List Int)×((List aM)×(Int×(Int×(Int×(Int×(Unit×(Int×(Unit×(Unit×((List aL)×((List cL)×((List aK)×((List aJ)×((List Int)×((List aM)×((List eF)×Unit)))))))))))))))))))))))))))))))
abbrev rL:Type:=(Int×(Int×(iQ×(bI×Unit))))
abbrev aBw:Ty:=(.pair (.int .i64) (.pair (.int .i64) (.pair .str (.pair .str .unit))))
abbrev nT:=((0:Int),((0:Int),()))
abbrev wT:=((0:Int),(([]:List UInt8),(([]:List UInt8),nT)))
abbrev aMy:Type:=(Int×(Int×(Int×(Int×(Unit×(Int×(Unit×(Unit×((List aL)×((List cL)×((List aK)×((List aJ)×((List Int)×((List aM)×(Int×(Int×(Int×(Int×(Unit×(Int×(Unit×(Unit×((List aL)×((List cL)×((List aK)×((List aJ)×((List Int)×((List aM)×Unit))))))))))))))))))))))))))))
abbrev wI:Ty:=(.pair (.int .i64) (.pair (.int .i64) zk9))
abbrev aHE:Type:=((List aK)×((Int×((List Int)×((List aM)×Unit)))×((List cL)×((List aJ)×aDl))))
abbrev tG:=((0:Int),(false,()))
abbrev tH:Type:=((List Int)×Unit)
abbrev aLr:Type:=(Int×(Int×(Int×(Int×(Unit×((List eQ)×Unit))))))
abbrev xS:Type:=(Unit×(Int×Unit))
abbrev aN5:=((0:Int),((),(([]:List cL),(([]:List aK),(([]:List aJ),(([]:List Int),(([]:List aM),())))))))
abbrev aKK:Ty:=(.pair (.int .i64) (.pair (.int .i64) (.pair (.int .i64) (.pair (.int .i64) aBw))))
abbrev zk2:Ty:=(.pair (.int .i64) (.pair aKK .unit))
abbrev aAj:Ty:=(.pair (.int .i64) (.pair (.int .i64) (.pair (.sl 0 zk2) .unit)))
abbrev aIc:Ty:=(.pair (.int .i64) (.pair (.int .i64) (.pair (.int .i64) (.pair (.int .i64) (.pair (.sl 0 zk2) (.pair .str .unit))))))
abbrev aHz:Type:=(Int×(Int×(Unit×((List eS)×Unit))))
abbrev wQ:Ty:=(.sl 0 (.int .u8))
abbrev oR:Ty:=(.pair wQ (.pair (.int .i64) (.pair .bool .unit)))
abbrev aMU:Type:=(iQ×(Int×(Int×(Unit×((List aL)×(Int×(Int×(Unit×((List aL)×Unit)))))))))
abbrev aHB:Ty:=(.pair (.int .i64) (.pair .str (.pair .str zk9)))
abbrev aAi:Ty:=(.pair (.int .i64) (.pair (.int .i64) (.pair (.sl 0 aHB) .unit)))
abbrev zk1:Ty:=(.pair (.sl 0 aAi) (.pair (.sl 0 aBA) (.pair (.sl 0 aAk) (.pair (.int .i64) (.pair (.sl 0 (.int .i64)) (.pair (.sl 0 aBw) .unit))))))
abbrev aF1:Ty:=(.pair (.int .i64) (.pair (.int .i64) (.pair aAj (.pair zk1 .unit))))
abbrev aJj:=((0:Int),((0:Int),(([]:List aL),())))
abbrev aMw:Type:=(Int×(Int×(Unit×(List aL×(Int×(Int×(Unit×(List aL×Unit))))))))
abbrev aCq:Type:=((List UInt8)×Unit)
abbrev aIL:Type:=(Int×(Int×(Int×(Int×(aCq×((List aL)×Unit))))))
abbrev aDo:Type:=(Int×(Bool×Unit))
abbrev jT:Type:=((List Int)×aDo)
abbrev aDq:Type:=(jT×(Int×(Unit×((List Int)×((List Int)×((List Int)×(Int×(Unit×((List Int)×((List Int)×tH))))))))))
abbrev aMG:Type:=(aW×(Int×(Unit×((List cL)×((List aK)×((List aJ)×((List Int)×((List aM)×(jT×aDl)))))))))
abbrev aMB:Type:=(jT×(Int×(Unit×((List cL)×((List aK)×((List aJ)×((List Int)×((List aM)×(aW×Unit)))))))))
abbrev aN8:Type:=(jT×(Int×(Int×(Int×(Int×(Unit×((List eQ)×aLr)))))))
abbrev aDi:Type:=(Int×(jT×zt3))
abbrev aFf:Type:=(aW×(bI×Unit))
abbrev aAx:Type:=(aJ×Unit)
abbrev aMv:Type:=(jT×(Int×(Unit×((List Int)×((List Int)×tH)))))
theorem iX{n:Int}(h1:-9223372036854775808<=n)(h2:n<=9223372036854775807):wrap .i64 n=n:=by
 simp[wrap,IntKind.signed,IntKind.bits];omega
theorem w8{n:Int}(h1:0<=n)(h2:n<=255):wrap .u8 n=n:=by
 simp[wrap,IntKind.signed,IntKind.bits];omega
theorem aPc{n:Int}:inK .i64 n↔-9223372036854775808<=n/\n<=9223372036854775807:=by
 unfold inK;rw[aK7,aJy]
theorem in8{n:Int}:inK .u8 n↔0<=n/\n<=255:=by
 unfold inK;rfl
theorem lJ:maxLen=9223372036854775807:=rfl
def dJ{α:Type}(xs:List α):Bool:=decide (xs.length<=16777216)
theorem cC{α:Type}{xs:List α}:dJ xs=true↔xs.length<=16777216:=by simp[dJ]
theorem eZ{α:Type}{xs:List α}{i:Nat}{d:α}(h:i<xs.length):xs.getD i d=xs[i]:=by
 rw[List.getD_eq_getElem?_getD,Zm h];rfl
def letB{α β:Type}(a:α)(f:α->β):β:=f a
open Classical in
noncomputable def same{α:Type}(a b:α):Bool:=decide (a=b)
theorem bV{α:Type}{a b:α}:same a b=true↔a=b:=by simp[same]
theorem aQ{α:Type}{a b:α}:same a b=false↔¬a=b:=by simp[same]
theorem pS{α:Type}(a:α):same a a=true:=bV.2 rfl
theorem aBP{α:Type}(l:List α)(i:Nat)(v:α):l.modify i (fun _=>v)=l.set i v:=by
 apply List.ext_getElem?
 intro j
 rw[List.getElem?_modify,List.getElem?_set]
 by_cases h:i=j
 . subst h
   rcases Nat.lt_or_ge i l.length with hl|hl
   . simp[hl]
   . simp[List.getElem?_eq_none hl,Nat.not_lt.2 hl]
 . simp[h]
section
variable {α:Type}
abbrev ToS(α:Type):=List α×(Int×(List α×Unit))
def aLK:ToS α->Prop:=fun s=>s.1.length<=maxLen/\0<=s.2.1/\s.2.1.toNat<=s.1.length/\s.2.2.1.length=s.1.length/\s.2.2.1.take s.2.1.toNat=s.1.take s.2.1.toNat
open Classical in
noncomputable def aBt(s:ToS α):Bool:=decide (aLK s)
def aKR:ToS α->List α×Unit:=fun s=>(s.1,())
def aKu:ToS α->Nat:=fun s=>s.1.length-s.2.1.toNat
theorem qP{s:ToS α}:aBt s=true↔aLK s:=by simp[aBt]
theorem aMn{x1:List α}{x2:Int}{x3:List α}(hp:aBt (x1,(x2,(x3,())))=true)(hlt:x2<(x1.length:Int))(d:α):
 x2<(x3.length:Int)/\0<=x2/\Rounds aBt aKu aKR (x1,(x2,(x3,()))) (some (.inl (x1,(wrap .i64 (x2+1),(x3.modify x2.toNat (fun _=>x1.getD x2.toNat d),()))))):=by
 rw[qP] at hp
 obtain⟨h1,h2,h3,h4,h5⟩:=hp
 simp only[] at h1 h2 h3 h4 h5
 have hM:=lJ
 have hn:x2.toNat<x1.length:=by omega
 refine⟨by omega,h2,?_⟩
 simp only[Rounds,iX (n:=x2+1) (by omega) (by omega),qP]
 refine⟨⟨h1,by show 0<=x2+1;omega,by show(x2+1).toNat<=x1.length;omega,by show(List.modify _ _ _).length=_;rw[List.length_modify];exact h4,?_⟩,by simp only[aKu];omega,rfl⟩
 show List.take (x2+1).toNat (x3.modify x2.toNat (fun _=>x1.getD x2.toNat d))=List.take (x2+1).toNat x1
 rw[aBP,show(x2+1).toNat=x2.toNat+1 by omega,List.take_add_one,List.take_add_one,List.take_set_of_le (by omega),h5]
 congr 1
 rw[List.getElem?_set_self (by omega),eZ hn,Zm hn]
theorem aNL{x1:List α}{x2:Int}{x3:List α}(hp:aBt (x1,(x2,(x3,())))=true)(hlt:¬x2<(x1.length:Int)):
 Rounds aBt aKu aKR (x1,(x2,(x3,()))) (some (.inr (x3,()))):=by
 rw[qP] at hp
 obtain⟨h1,h2,h3,h4,h5⟩:=hp
 simp only[] at h1 h2 h3 h4 h5
 have:x2.toNat=x1.length:=by omega
 rw[this,List.take_length,<-h4,List.take_length] at h5
 simp only[Rounds,aKR,h5]
theorem aLx{x:List α}(h:x.length<=maxLen)(d:α):aBt (x,((0:Int),(List.replicate (Int.toNat ((x.length:Nat):Int)) d,())))=true:=by
 rw[qP]
 exact⟨h,by simp,by simp,by simp,by simp⟩
abbrev EqS(α:Type):=List α×(List α×(Int×Unit))
def tE:EqS α->Bool:=fun s=>decide (s.1.length<=maxLen)&&decide (0<=s.2.2.1)&&decide (s.2.2.1.toNat<=s.1.length)&&decide (s.2.1.length=s.1.length)
open Classical in
noncomputable def aA8:EqS α->(Bool×Unit)⊕Unit:=fun s=>if s.1.drop s.2.2.1.toNat=s.2.1.drop s.2.2.1.toNat then .inr () else .inl (false,())
def aCN:EqS α->Nat:=fun s=>s.1.length-s.2.2.1.toNat
theorem vM{x1 x2:List α}{x3:Int}(hp:tE (x1,(x2,(x3,())))=true)(hlt:x3<(x1.length:Int))(d:α):
 0<=x3/\x3<(x2.length:Int)/\(x1.getD x3.toNat d=x2.getD x3.toNat d->Rounds tE aCN aA8 (x1,(x2,(x3,()))) (some (.inl (x1,(x2,(wrap .i64 (x3+1),()))))))/\
  (¬x1.getD x3.toNat d=x2.getD x3.toNat d->Rounds tE aCN aA8 (x1,(x2,(x3,()))) (some (.inr (.inl (false,()))))):=by
 simp only[tE,Zb,Za] at hp
 obtain⟨⟨⟨h1,h2⟩,h3⟩,h4⟩:=hp
 have hM:=lJ
 have hn:x3.toNat<x1.length:=by omega
 have hn2:x3.toNat<x2.length:=by omega
 have e1:=Zn hn
 have e2:=Zn hn2
 rw[eZ hn,eZ hn2]
 refine⟨h2,by omega,fun he=>?_,fun he=>?_⟩
 . simp only[Rounds,iX (n:=x3+1) (by omega) (by omega)]
   refine⟨?_,by simp only[aCN];omega,?_⟩
   . simp only[tE,Zb,Za]
     exact⟨⟨⟨h1,by omega⟩,by omega⟩,h4⟩
   . have hi:x1.drop (x3+1).toNat=x2.drop (x3+1).toNat↔x1.drop x3.toNat=x2.drop x3.toNat:=by
      rw[show(x3+1).toNat=x3.toNat+1 by omega,e1,e2,he,List.cons.injEq];simp
     simp only[aA8]
     by_cases hc:x1.drop x3.toNat=x2.drop x3.toNat
     . rw[if_pos hc,if_pos (hi.2 hc)]
     . rw[if_neg hc,if_neg (fun h=>hc (hi.1 h))]
 . simp only[Rounds,aA8]
   rw[if_neg]
   rw[e1,e2,List.cons.injEq]
   exact fun h=>he h.1
theorem zW{x1 x2:List α}{x3:Int}(hp:tE (x1,(x2,(x3,())))=true)(hlt:¬x3<(x1.length:Int)):
 Rounds tE aCN aA8 (x1,(x2,(x3,()))) (some (.inr (.inr ()))):=by
 simp only[tE,Zb,Za] at hp
 obtain⟨⟨⟨h1,h2⟩,h3⟩,h4⟩:=hp
 simp only[Rounds,aA8]
 rw[Zt (by omega),Zt (by omega),if_pos rfl]
theorem sQ{x0 x1:List α}(h:x0.length<=maxLen)(hl:(x0.length:Int)=(x1.length:Int)):tE (x0,(x1,((0:Int),())))=true:=by
 simp only[tE,Zb,Za]
 exact⟨⟨⟨h,by omega⟩,by omega⟩,by omega⟩
theorem vL{x0 x1:List α}(h:x0=x1):aA8 (x0,(x1,((0:Int),())))=.inr ():=by
 unfold aA8
 exact if_pos h
theorem vR{x0 x1:List α}(h:¬x0=x1):aA8 (x0,(x1,((0:Int),())))=.inl (false,()):=by
 unfold aA8
 exact if_neg h
end
def aB(n lo hi:Int):Bool:=decide (lo<=n)&&decide (n<=hi)
namespace aB
abbrev wf(x0:Int)(x1:Int)(x2:Int):Prop:=fV [(.val (.int .i64) .f),(.val (.int .i64) .f),(.val (.int .i64) .f)] (x0,(x1,(x2,())))
noncomputable def aR(x0:Int)(x1:Int)(x2:Int):Option lA:=
 if(decide (x1<=x0))=true then
 some ((),((decide (x0<=x2)),()))
 else
 some ((),(false,()))
theorem eq(x0 x1 x2:Int)(_:wf x0 x1 x2):aR x0 x1 x2=some ((),(aB x0 x1 x2,())):=by
 unfold aR aB
 by_cases h:x1<=x0<;>simp[h]
end aB
abbrev dX:=aB
namespace dX
abbrev wf(x0:Int)(x1:Int)(x2:Int):Prop:=fV [(.val (.int .i64) .f),(.val (.int .i64) .f),(.val (.int .i64) .f)] (x0,(x1,(x2,())))
noncomputable def aR(x0:Int)(x1:Int)(x2:Int):Option lA:=
 if(decide (x1<=x0))=true then
 some ((),((decide (x0<=x2)),()))
 else
 some ((),(false,()))
theorem eq(x0 x1 x2:Int)(_:wf x0 x1 x2):aR x0 x1 x2=some ((),(dX x0 x1 x2,())):=by
 unfold aR dX aB
 by_cases h:x1<=x0<;>simp[h]
end dX
def aC5(c:UInt8):Bool:=(decide (97<=c.toNat)&&decide (c.toNat<=122))||(decide (48<=c.toNat)&&decide (c.toNat<=57))||decide (c.toNat=32)
def gK(s:List UInt8):Bool:=s.all aC5&&decide (s.length<=30)
abbrev TxS:=List UInt8×(Int×Unit)
def aAd:TxS->Bool:=fun s=>decide (s.1.length<=maxLen)&&decide (0<=s.2.1)&&decide (s.2.1.toNat<=s.1.length)
def aF5:TxS->(Bool×Unit)⊕(List UInt8×Unit):=fun s=>if(s.1.drop s.2.1.toNat).all aC5=true then .inr (s.1,()) else .inl (false,())
def aKc:TxS->Nat:=fun s=>s.1.length-s.2.1.toNat
theorem aJG{x1:List UInt8}{x2:Int}(hp:aAd (x1,(x2,()))=true)(hlt:x2<(x1.length:Int)):
 0<=x2/\(aC5 (x1.getD x2.toNat 0)=true->Rounds aAd aKc aF5 (x1,(x2,())) (some (.inl (x1,(wrap .i64 (x2+1),())))))/\
  (aC5 (x1.getD x2.toNat 0)=false->Rounds aAd aKc aF5 (x1,(x2,())) (some (.inr (.inl (false,()))))):=by
 simp only[aAd,Zb,Za] at hp
 obtain⟨⟨h1,h2⟩,h3⟩:=hp
 have hM:=lJ
 have hn:x2.toNat<x1.length:=by omega
 have e1:=Zn hn
 rw[eZ hn]
 refine⟨h2,fun he=>?_,fun he=>?_⟩
 . simp only[Rounds,iX (n:=x2+1) (by omega) (by omega)]
   refine⟨?_,by simp only[aKc];omega,?_⟩
   . simp only[aAd,Zb,Za]
     exact⟨⟨h1,by omega⟩,by omega⟩
   . simp only[aF5,show(x2+1).toNat=x2.toNat+1 by omega,e1,List.all_cons,he,Bool.true_and]
 . simp only[Rounds,aF5,e1,List.all_cons,he,Bool.false_and,Zj,if_false]
theorem aMb{x1:List UInt8}{x2:Int}(hp:aAd (x1,(x2,()))=true)(hlt:¬x2<(x1.length:Int)):
 Rounds aAd aKc aF5 (x1,(x2,())) (some (.inr (.inr (x1,())))):=by
 simp only[aAd,Zb,Za] at hp
 obtain⟨⟨h1,h2⟩,h3⟩:=hp
 simp only[Rounds,aF5]
 rw[Zt (by omega)]
 rfl
theorem aNi{x0:List UInt8}(h:x0.length<=maxLen):aAd (x0,((0:Int),()))=true:=by simp[aAd,h]
abbrev iF:=gK
abbrev jF:=gK
namespace iF
def pre2:=aAd
def fn2:=aF5
def kX:=aKc
noncomputable def cU(x1:(List UInt8))(x2:Int):Option (((List UInt8)×(Int×Unit))⊕((Bool×Unit)⊕aCq)):=
 if(decide (x2<((length x1:Nat):Int)))=true then
 if(decide ((0:Int)<=x2))=true then
 if(decide (x2<((length x1:Nat):Int)))=true then
 if(decide (((UInt8.toNat (List.getD x1 (Int.toNat x2) 0):Nat):Int)<(97:Int)))=true then
 if(decide (((UInt8.toNat (List.getD x1 (Int.toNat x2) 0):Nat):Int)<(48:Int)))=true then
 if(!(decide (((UInt8.toNat (List.getD x1 (Int.toNat x2) 0):Nat):Int)=(32:Int))))=true then
 some (.inr (.inl (false,())))
 else
 some (.inl (x1,((wrap .i64 (x2+(1:Int))),())))
 else
 if(decide ((57:Int)<((UInt8.toNat (List.getD x1 (Int.toNat x2) 0):Nat):Int)))=true then
 if(!(decide (((UInt8.toNat (List.getD x1 (Int.toNat x2) 0):Nat):Int)=(32:Int))))=true then
 some (.inr (.inl (false,())))
 else
 some (.inl (x1,((wrap .i64 (x2+(1:Int))),())))
 else
 some (.inl (x1,((wrap .i64 (x2+(1:Int))),())))
 else
 if(decide ((122:Int)<((UInt8.toNat (List.getD x1 (Int.toNat x2) 0):Nat):Int)))=true then
 if(decide (((UInt8.toNat (List.getD x1 (Int.toNat x2) 0):Nat):Int)<(48:Int)))=true then
 if(!(decide (((UInt8.toNat (List.getD x1 (Int.toNat x2) 0):Nat):Int)=(32:Int))))=true then
 some (.inr (.inl (false,())))
 else
 some (.inl (x1,((wrap .i64 (x2+(1:Int))),())))
 else
 if(decide ((57:Int)<((UInt8.toNat (List.getD x1 (Int.toNat x2) 0):Nat):Int)))=true then
 if(!(decide (((UInt8.toNat (List.getD x1 (Int.toNat x2) 0):Nat):Int)=(32:Int))))=true then
 some (.inr (.inl (false,())))
 else
 some (.inl (x1,((wrap .i64 (x2+(1:Int))),())))
 else
 some (.inl (x1,((wrap .i64 (x2+(1:Int))),())))
 else
 some (.inl (x1,((wrap .i64 (x2+(1:Int))),())))
 else
 none
 else
 none
 else
 some (.inr (.inr (x1,())))
abbrev wf(x0:(List UInt8)):Prop:=fV [(.val .str .f)] (x0,())
noncomputable def aR(x0:(List UInt8)):Option lA:=
 if(iF.pre2 (x0,((0:Int),())))=true then
  match(iF.fn2 (x0,((0:Int),()))) with
  |.inl y=>
   some ((),y)
  |.inr y=>
   some ((),((decide (((length y.1:Nat):Int)<=(30:Int))),()))
 else
  none
theorem qG(x1:List UInt8)(x2:Int)(hp:pre2 (x1,(x2,()))=true):Rounds pre2 kX fn2 (x1,(x2,())) (cU x1 x2):=by
 unfold cU
 by_cases hlt:x2<(x1.length:Int)
 . obtain⟨h1,h2,h3⟩:=aJG hp hlt
   simp only[hlt,h1,decide_true,if_true,Za,Bool.not_eq_true',Zv]
   generalize hc:(x1.getD x2.toNat 0)=c at *
   have hk:aC5 c=true\/aC5 c=false:=by cases aC5 c<;>simp
   unfold aC5 at hk h2 h3
   simp only[Bool.or_eq_true,Zb,Za,Bool.or_eq_false_iff,Bool.and_eq_false_iff,Zv] at hk h2 h3
   repeat' split
   all_goals first|(exact h2 (by omega))|(exact h3 (by omega))
 . simp only[hlt,decide_false,Zj,if_false]
   exact aMb hp hlt
theorem eq(x0:List UInt8)(hw:wf x0):aR x0=some ((),(iF x0,())):=by
 have h1:x0.length<=maxLen:=hw.1
 unfold aR iF gK
 rw[if_pos (show pre2 _=true from aNi h1)]
 simp only[fn2,aF5,Int.toNat_zero,List.drop_zero]
 by_cases h:x0.all aC5=true
 . rw[if_pos h,h]
   by_cases hl:x0.length<=30
   . simp[hl];omega
   . simp[hl];omega
 . rw[if_neg h];simp[h]
end iF
namespace jF
def pre2:=aAd
def fn2:=aF5
def kX:=aKc
noncomputable def cU(x1:(List UInt8))(x2:Int):Option (((List UInt8)×(Int×Unit))⊕((Bool×Unit)⊕aCq)):=
 if(decide (x2<((length x1:Nat):Int)))=true then
 if(decide ((0:Int)<=x2))=true then
 if(decide (x2<((length x1:Nat):Int)))=true then
 if(decide ((97:Int)<=((UInt8.toNat (List.getD x1 (Int.toNat x2) 0):Nat):Int)))=true then
 if(decide (((UInt8.toNat (List.getD x1 (Int.toNat x2) 0):Nat):Int)<=(122:Int)))=true then
 if(!true)=true then
 some (.inr (.inl (false,())))
 else
 some (.inl (x1,((wrap .i64 (x2+(1:Int))),())))
 else
 if(decide ((48:Int)<=((UInt8.toNat (List.getD x1 (Int.toNat x2) 0):Nat):Int)))=true then
 if(decide (((UInt8.toNat (List.getD x1 (Int.toNat x2) 0):Nat):Int)<=(57:Int)))=true then
 if(!true)=true then
 some (.inr (.inl (false,())))
 else
 some (.inl (x1,((wrap .i64 (x2+(1:Int))),())))
 else
 if(!(decide (((UInt8.toNat (List.getD x1 (Int.toNat x2) 0):Nat):Int)=(32:Int))))=true then
 some (.inr (.inl (false,())))
 else
 some (.inl (x1,((wrap .i64 (x2+(1:Int))),())))
 else
 if(!(decide (((UInt8.toNat (List.getD x1 (Int.toNat x2) 0):Nat):Int)=(32:Int))))=true then
 some (.inr (.inl (false,())))
 else
 some (.inl (x1,((wrap .i64 (x2+(1:Int))),())))
 else
 if(decide ((48:Int)<=((UInt8.toNat (List.getD x1 (Int.toNat x2) 0):Nat):Int)))=true then
 if(decide (((UInt8.toNat (List.getD x1 (Int.toNat x2) 0):Nat):Int)<=(57:Int)))=true then
 if(!true)=true then
 some (.inr (.inl (false,())))
 else
 some (.inl (x1,((wrap .i64 (x2+(1:Int))),())))
 else
 if(!(decide (((UInt8.toNat (List.getD x1 (Int.toNat x2) 0):Nat):Int)=(32:Int))))=true then
 some (.inr (.inl (false,())))
 else
 some (.inl (x1,((wrap .i64 (x2+(1:Int))),())))
 else
 if(!(decide (((UInt8.toNat (List.getD x1 (Int.toNat x2) 0):Nat):Int)=(32:Int))))=true then
 some (.inr (.inl (false,())))
 else
 some (.inl (x1,((wrap .i64 (x2+(1:Int))),())))
 else
 none
 else
 none
 else
 some (.inr (.inr (x1,())))
abbrev wf(x0:(List UInt8)):Prop:=fV [(.val .str .f)] (x0,())
noncomputable def aR(x0:(List UInt8)):Option lA:=
 if(jF.pre2 (x0,((0:Int),())))=true then
  match(jF.fn2 (x0,((0:Int),()))) with
  |.inl y=>
   some ((),y)
  |.inr y=>
   some ((),((decide (((length y.1:Nat):Int)<=(30:Int))),()))
 else
  none
theorem qG(x1:List UInt8)(x2:Int)(hp:pre2 (x1,(x2,()))=true):Rounds pre2 kX fn2 (x1,(x2,())) (cU x1 x2):=by
 unfold cU
 by_cases hlt:x2<(x1.length:Int)
 . obtain⟨h1,h2,h3⟩:=aJG hp hlt
   simp only[hlt,h1,decide_true,if_true,Za,Bool.not_eq_true',Zv,Bool.not_true,Zj,if_false]
   generalize hc:(x1.getD x2.toNat 0)=c at *
   have hk:aC5 c=true\/aC5 c=false:=by cases aC5 c<;>simp
   unfold aC5 at hk h2 h3
   simp only[Bool.or_eq_true,Zb,Za,Bool.or_eq_false_iff,Bool.and_eq_false_iff,Zv] at hk h2 h3
   repeat' split
   all_goals first|(exact h2 (by omega))|(exact h3 (by omega))
 . simp only[hlt,decide_false,Zj,if_false]
   exact aMb hp hlt
theorem eq(x0:List UInt8)(hw:wf x0):aR x0=some ((),(jF x0,())):=by
 have h1:x0.length<=maxLen:=hw.1
 unfold aR jF gK
 rw[if_pos (show pre2 _=true from aNi h1)]
 simp only[fn2,aF5,Int.toNat_zero,List.drop_zero]
 by_cases h:x0.all aC5=true
 . rw[if_pos h,h]
   by_cases hl:x0.length<=30
   . simp[hl];omega
   . simp[hl];omega
 . rw[if_neg h];simp[h]
end jF
def pA(c:Cmd):Bool:=
 if c.1=-1 then decide (c.1=-1)&&(decide (c.2.1=0)&&(decide (c.2.2.1=0)&&(decide (c.2.2.2.1=0)&&(decide (c.2.2.2.2.1=0)&&(decide (c.2.2.2.2.2.1=0)&&(c.2.2.2.2.2.2.1==[]&&c.2.2.2.2.2.2.2.1==[]))))))
 else aB c.1 0 3&&(aB c.2.1 1 100000&&(aB c.2.2.1 1 10&&(aB c.2.2.2.1 0 100000&&(aB c.2.2.2.2.1 0 100000&&(aB c.2.2.2.2.2.1 0 100000&&(gK c.2.2.2.2.2.2.1&&gK c.2.2.2.2.2.2.2.1))))))
abbrev kQ:=pA
abbrev nY:=pA
namespace kQ
abbrev wf(x0:Cmd):Prop:=fV [(.val aKK .f)] (x0,())
noncomputable def aR(x0:Cmd):Option lA:=
 if(decide (x0.1=(-1:Int)))=true then
 some ((),(((decide (x0.1=(-1:Int)))&&((decide (x0.2.1=(0:Int)))&&((decide (x0.2.2.1=(0:Int)))&&((decide (x0.2.2.2.1=(0:Int)))&&((decide (x0.2.2.2.2.1=(0:Int)))&&((decide (x0.2.2.2.2.2.1=(0:Int)))&&((x0.2.2.2.2.2.2.1==([]:List UInt8))&&(x0.2.2.2.2.2.2.2.1==([]:List UInt8))))))))),()))
 else
 if(aB x0.1 (0:Int) (3:Int))=true then
 if(aB x0.2.1 (1:Int) (100000:Int))=true then
 if(aB x0.2.2.1 (1:Int) (10:Int))=true then
 if(aB x0.2.2.2.1 (0:Int) (100000:Int))=true then
 if(aB x0.2.2.2.2.1 (0:Int) (100000:Int))=true then
 if(aB x0.2.2.2.2.2.1 (0:Int) (100000:Int))=true then
 if(gK x0.2.2.2.2.2.2.1)=true then
 some ((),((gK x0.2.2.2.2.2.2.2.1),()))
 else
 some ((),(false,()))
 else
 some ((),(false,()))
 else
 some ((),(false,()))
 else
 some ((),(false,()))
 else
 some ((),(false,()))
 else
 some ((),(false,()))
 else
 some ((),(false,()))
theorem eq(x0:Cmd)(_:wf x0):aR x0=some ((),(kQ x0,())):=by
 unfold aR kQ pA
 simp only[Za]
 split
 . rfl
 . cases aB x0.1 0 3<;>simp only[Zj,if_false,if_true,Bool.false_and,Bool.true_and]
   cases aB x0.2.1 1 100000<;>simp only[Zj,if_false,if_true,Bool.false_and,Bool.true_and]
   cases aB x0.2.2.1 1 10<;>simp only[Zj,if_false,if_true,Bool.false_and,Bool.true_and]
   cases aB x0.2.2.2.1 0 100000<;>simp only[Zj,if_false,if_true,Bool.false_and,Bool.true_and]
   cases aB x0.2.2.2.2.1 0 100000<;>simp only[Zj,if_false,if_true,Bool.false_and,Bool.true_and]
   cases aB x0.2.2.2.2.2.1 0 100000<;>simp only[Zj,if_false,if_true,Bool.false_and,Bool.true_and]
   cases gK x0.2.2.2.2.2.2.1<;>simp only[Zj,if_false,if_true,Bool.false_and,Bool.true_and]
end kQ
namespace nY
abbrev wf(x0:Cmd):Prop:=fV [(.val aKK .f)] (x0,())
noncomputable def aR(x0:Cmd):Option lA:=
 if(decide (x0.1=(-1:Int)))=true then
 some ((),(((decide (x0.1=(-1:Int)))&&((decide (x0.2.1=(0:Int)))&&((decide (x0.2.2.1=(0:Int)))&&((decide (x0.2.2.2.1=(0:Int)))&&((decide (x0.2.2.2.2.1=(0:Int)))&&((decide (x0.2.2.2.2.2.1=(0:Int)))&&((x0.2.2.2.2.2.2.1==([]:List UInt8))&&(x0.2.2.2.2.2.2.2.1==([]:List UInt8))))))))),()))
 else
 if(aB x0.1 (0:Int) (3:Int))=true then
 if(aB x0.2.1 (1:Int) (100000:Int))=true then
 if(aB x0.2.2.1 (1:Int) (10:Int))=true then
 if(aB x0.2.2.2.1 (0:Int) (100000:Int))=true then
 if(aB x0.2.2.2.2.1 (0:Int) (100000:Int))=true then
 if(aB x0.2.2.2.2.2.1 (0:Int) (100000:Int))=true then
 if(gK x0.2.2.2.2.2.2.1)=true then
 some ((),((gK x0.2.2.2.2.2.2.2.1),()))
 else
 some ((),(false,()))
 else
 some ((),(false,()))
 else
 some ((),(false,()))
 else
 some ((),(false,()))
 else
 some ((),(false,()))
 else
 some ((),(false,()))
 else
 some ((),(false,()))
theorem eq(x0:Cmd)(_:wf x0):aR x0=some ((),(nY x0,())):=by
 unfold aR nY pA
 simp only[Za]
 split
 . rfl
 . cases aB x0.1 0 3<;>simp only[Zj,if_false,if_true,Bool.false_and,Bool.true_and]
   cases aB x0.2.1 1 100000<;>simp only[Zj,if_false,if_true,Bool.false_and,Bool.true_and]
   cases aB x0.2.2.1 1 10<;>simp only[Zj,if_false,if_true,Bool.false_and,Bool.true_and]
   cases aB x0.2.2.2.1 0 100000<;>simp only[Zj,if_false,if_true,Bool.false_and,Bool.true_and]
   cases aB x0.2.2.2.2.1 0 100000<;>simp only[Zj,if_false,if_true,Bool.false_and,Bool.true_and]
   cases aB x0.2.2.2.2.2.1 0 100000<;>simp only[Zj,if_false,if_true,Bool.false_and,Bool.true_and]
   cases gK x0.2.2.2.2.2.2.1<;>simp only[Zj,if_false,if_true,Bool.false_and,Bool.true_and]
end nY
abbrev E0:aL:=wX
def zO(l:iQ):Int×Int:=if l.2.2.1.length=0 then(l.1,l.2.1) else(wrap .i64 (l.1+(l.2.2.1.length:Int)),(l.2.2.1.getD (l.2.2.1.length-1) E0).1)
abbrev mK:=zO
abbrev mU:=zO
namespace mK
abbrev wf(x0:iQ):Prop:=fV [(.val aAj .f)] (x0,())
noncomputable def aR(x0:iQ):Option (Unit×eQ):=
 if(decide ((0:Int)<((length x0.2.2.1:Nat):Int)))=true then
 if(decide ((0:Int)<=(wrap .i64 (((length x0.2.2.1:Nat):Int)-(1:Int)))))=true then
 if(decide ((wrap .i64 (((length x0.2.2.1:Nat):Int)-(1:Int)))<((length x0.2.2.1:Nat):Int)))=true then
 some ((),((wrap .i64 (x0.1+((length x0.2.2.1:Nat):Int))),((List.getD x0.2.2.1 (Int.toNat (wrap .i64 (((length x0.2.2.1:Nat):Int)-(1:Int)))) wX).1,())))
 else
 none
 else
 none
 else
 some ((),(x0.1,(x0.2.1,())))
theorem eq(x0:iQ)(hw:wf x0):aR x0=some ((),((mK x0).1,((mK x0).2,()))):=by
 have h1:x0.2.2.1.length<=maxLen:=hw.1.2.2.1.1
 have hM:=lJ
 unfold aR mK zO
 by_cases h:x0.2.2.1.length=0
 . simp[h]
 . rw[iX (n:=(x0.2.2.1.length:Int)-1) (by omega) (by omega),if_pos (by rw[Za];omega),if_pos (by rw[Za];omega),if_pos (by rw[Za];omega),if_neg h]
   rw[show((x0.2.2.1.length:Int)-1).toNat=x0.2.2.1.length-1 by omega]
end mK
namespace mU
abbrev wf(x0:iQ):Prop:=fV [(.val aAj .f)] (x0,())
noncomputable def aR(x0:iQ):Option (Unit×eQ):=
 if(decide (((length x0.2.2.1:Nat):Int)=(0:Int)))=true then
 some ((),(x0.1,(x0.2.1,())))
 else
 if(decide ((0:Int)<=(wrap .i64 (((length x0.2.2.1:Nat):Int)-(1:Int)))))=true then
 if(decide ((wrap .i64 (((length x0.2.2.1:Nat):Int)-(1:Int)))<((length x0.2.2.1:Nat):Int)))=true then
 some ((),((wrap .i64 (x0.1+((length x0.2.2.1:Nat):Int))),((List.getD x0.2.2.1 (Int.toNat (wrap .i64 (((length x0.2.2.1:Nat):Int)-(1:Int)))) wX).1,())))
 else
 none
 else
 none
theorem eq(x0:iQ)(hw:wf x0):aR x0=some ((),((mU x0).1,((mU x0).2,()))):=by
 have h1:x0.2.2.1.length<=maxLen:=hw.1.2.2.1.1
 have hM:=lJ
 unfold aR mU zO
 by_cases h:x0.2.2.1.length=0
 . simp[h]
 . rw[iX (n:=(x0.2.2.1.length:Int)-1) (by omega) (by omega),if_neg (by rw[Za];omega),if_pos (by rw[Za];omega),if_pos (by rw[Za];omega),if_neg h]
   rw[show((x0.2.2.1.length:Int)-1).toNat=x0.2.2.1.length-1 by omega]
end mU
def aAO:List aL->Int->Bool
 |[],_=>true
 |e::r,t=>aB e.1 t 300&&(pA e.2.1&&aAO r e.1)
def rK(l:iQ):Bool:=aB l.1 0 300&&(aB l.2.1 0 300&&(decide ((l.2.2.1.length:Int)<=300-l.1)&&aAO l.2.2.1 l.2.1))
abbrev mA:=rK
abbrev lY:=rK
theorem aJD{xs:List aL}{t:Int}{i:Int}(h0:0<=i)(hlt:i<(xs.length:Int))(hl:xs.length<=maxLen):
 aAO (xs.drop i.toNat) t=(aB (xs.getD i.toNat E0).1 t 300&&(pA (xs.getD i.toNat E0).2.1&&aAO (xs.drop (wrap .i64 (i+1)).toNat) (xs.getD i.toNat E0).1))/\0<=wrap .i64 (i+1)/\(wrap .i64 (i+1)).toNat<=xs.length/\
  xs.length-(wrap .i64 (i+1)).toNat<xs.length-i.toNat:=by
 have hM:=lJ
 have hn:i.toNat<xs.length:=by omega
 rw[iX (by omega) (by omega),eZ hn,Zn hn,show(i+1).toNat=i.toNat+1 by omega]
 refine⟨rfl,by omega,by omega,by omega⟩
namespace mA
abbrev S:=Int×(List aL×(Int×(Int×Unit)))
def pre5:S->Bool:=fun s=>decide (s.2.1.length<=maxLen)&&(decide (s.2.2.1=(s.2.1.length:Int))&&(decide (0<=s.2.2.2.1)&&decide (s.2.2.2.1.toNat<=s.2.1.length)))
def fn5:S->(Bool×Unit)⊕Unit:=fun s=>if aAO (s.2.1.drop s.2.2.2.1.toNat) s.1=true then .inr () else .inl (false,())
def mu5:S->Nat:=fun s=>s.2.1.length-s.2.2.2.1.toNat
noncomputable def tS(x1:Int)(x2:(List aL))(x3:Int)(x4:Int):Option ((Int×((List aL)×eQ))⊕((Bool×Unit)⊕Unit)):=
 if(decide (x4<x3))=true then
 if(decide ((0:Int)<=x4))=true then
 if(decide (x4<((length x2:Nat):Int)))=true then
 if(!(aB (List.getD x2 (Int.toNat x4) wX).1 x1 (300:Int)))=true then
 some (.inr (.inl (false,())))
 else
 if(!(pA (List.getD x2 (Int.toNat x4) wX).2.1))=true then
 some (.inr (.inl (false,())))
 else
 some (.inl ((List.getD x2 (Int.toNat x4) wX).1,(x2,(x3,((wrap .i64 (x4+(1:Int))),())))))
 else
 none
 else
 none
 else
 some (.inr (.inr ()))
abbrev wf(x0:iQ):Prop:=fV [(.val aAj .f)] (x0,())
noncomputable def aR(x0:iQ):Option lA:=
 if(!(aB x0.1 (0:Int) (300:Int)))=true then
  some ((),(false,()))
 else
  if(!(aB x0.2.1 (0:Int) (300:Int)))=true then
   some ((),(false,()))
  else
   if(decide ((wrap .i64 ((300:Int)-x0.1))<((length x0.2.2.1:Nat):Int)))=true then
    some ((),(false,()))
   else
    if(mA.pre5 (x0.2.1,(x0.2.2.1,(((length x0.2.2.1:Nat):Int),((0:Int),())))))=true then
     match(mA.fn5 (x0.2.1,(x0.2.2.1,(((length x0.2.2.1:Nat):Int),((0:Int),()))))) with
     |.inl y=>
      some ((),y)
     |.inr y=>
      some ((),(true,()))
    else
     none
theorem ok5(x1:Int)(x2:List aL)(x3 x4:Int)(hp:pre5 (x1,(x2,(x3,(x4,()))))=true):Rounds pre5 mu5 fn5 (x1,(x2,(x3,(x4,())))) (tS x1 x2 x3 x4):=by
 simp only[pre5,Zb,Za] at hp
 obtain⟨h1,rfl,h3,h4⟩:=hp
 unfold tS
 by_cases hlt:x4<(x2.length:Int)
 . obtain⟨g1,g2,g3,g4⟩:=aJD (t:=x1) h3 hlt h1
   simp only[hlt,h3,decide_true,if_true]
   cases hw:aB (x2.getD x4.toNat E0).1 x1 300 with
   |false=>simp only[Rounds,fn5,g1,hw,Bool.false_and,Bool.not_false,Zj,if_true,if_false]
   |true=>
    cases hc:pA (x2.getD x4.toNat E0).2.1 with
    |false=>simp only[Rounds,fn5,g1,hw,hc,Bool.false_and,Bool.true_and,Bool.not_false,Bool.not_true,Zj,if_true,if_false]
    |true=>
     simp only[Bool.not_true,Zj,if_false,Rounds]
     refine⟨?_,g4,?_⟩
     . simp only[pre5,Zb,Za]
       exact⟨h1,trivial,g2,g3⟩
     . simp only[fn5,g1,hw,hc,Bool.true_and]
 . simp only[hlt,decide_false,Zj,if_false,Rounds,fn5]
   rw[Zt (by omega)]
   rfl
theorem eq(x0:iQ)(hw:wf x0):aR x0=some ((),(mA x0,())):=by
 have h1:x0.2.2.1.length<=maxLen:=hw.1.2.2.1.1
 have hpre:pre5 (x0.2.1,(x0.2.2.1,(((x0.2.2.1.length:Nat):Int),((0:Int),()))))=true:=by simp[pre5,h1]
 unfold aR mA rK
 cases ha:aB x0.1 0 300 with
 |false=>simp
 |true=>
  cases hb:aB x0.2.1 0 300 with
  |false=>simp
  |true=>
   have ha':=ha
   simp only[aB,Zb,Za] at ha'
   rw[iX (by omega) (by omega)]
   by_cases hl:(x0.2.2.1.length:Int)<=300-x0.1
   . have hn:¬(300-x0.1<(x0.2.2.1.length:Int)):=by omega
     simp only[Bool.not_true,Zj,if_false,hn,decide_false,hpre,if_true,fn5,Int.toNat_zero,List.drop_zero,hl,decide_true,Bool.true_and]
     cases aAO x0.2.2.1 x0.2.1<;>rfl
   . have hn:300-x0.1<(x0.2.2.1.length:Int):=by omega
     simp[hl,hn]
end mA
namespace lY
abbrev S:=Int×(Int×(iQ×Unit))
def pre5:S->Bool:=fun s=>decide (s.2.2.1.2.2.1.length<=maxLen)&&(decide (0<=s.2.1)&&decide (s.2.1.toNat<=s.2.2.1.2.2.1.length))
def fn5:S->(Bool×Unit)⊕Unit:=fun s=>if aAO (s.2.2.1.2.2.1.drop s.2.1.toNat) s.1=true then .inr () else .inl (false,())
def mu5:S->Nat:=fun s=>s.2.2.1.2.2.1.length-s.2.1.toNat
noncomputable def tS(x1:Int)(x2:Int)(x3:iQ):Option ((Int×(Int×(iQ×Unit)))⊕((Bool×Unit)⊕Unit)):=
 if(decide (x2<((length x3.2.2.1:Nat):Int)))=true then
 if(decide ((0:Int)<=x2))=true then
 if(decide (x2<((length x3.2.2.1:Nat):Int)))=true then
 if(!(aB (List.getD x3.2.2.1 (Int.toNat x2) wX).1 x1 (300:Int)))=true then
 some (.inr (.inl (false,())))
 else
 if(decide ((0:Int)<=x2))=true then
 if(decide (x2<((length x3.2.2.1:Nat):Int)))=true then
 if(!(pA (List.getD x3.2.2.1 (Int.toNat x2) wX).2.1))=true then
 some (.inr (.inl (false,())))
 else
 if(decide ((0:Int)<=x2))=true then
 if(decide (x2<((length x3.2.2.1:Nat):Int)))=true then
 some (.inl ((List.getD x3.2.2.1 (Int.toNat x2) wX).1,((wrap .i64 (x2+(1:Int))),(x3,()))))
 else
 none
 else
 none
 else
 none
 else
 none
 else
 none
 else
 none
 else
 some (.inr (.inr ()))
abbrev wf(x0:iQ):Prop:=fV [(.val aAj .f)] (x0,())
noncomputable def aR(x0:iQ):Option lA:=
 if(!(aB x0.1 (0:Int) (300:Int)))=true then
  some ((),(false,()))
 else
  if(!(aB x0.2.1 (0:Int) (300:Int)))=true then
   some ((),(false,()))
  else
   if(decide ((wrap .i64 ((300:Int)-x0.1))<((length x0.2.2.1:Nat):Int)))=true then
    some ((),(false,()))
   else
    if(lY.pre5 (x0.2.1,((0:Int),(x0,()))))=true then
     match(lY.fn5 (x0.2.1,((0:Int),(x0,())))) with
     |.inl y=>
      some ((),y)
     |.inr y=>
      some ((),(true,()))
    else
     none
theorem ok5(x1 x2:Int)(x3:iQ)(hp:pre5 (x1,(x2,(x3,())))=true):Rounds pre5 mu5 fn5 (x1,(x2,(x3,()))) (tS x1 x2 x3):=by
 simp only[pre5,Zb,Za] at hp
 obtain⟨h1,h3,h4⟩:=hp
 unfold tS
 by_cases hlt:x2<(x3.2.2.1.length:Int)
 . obtain⟨g1,g2,g3,g4⟩:=aJD (t:=x1) h3 hlt h1
   simp only[hlt,h3,decide_true,if_true]
   cases hw:aB (x3.2.2.1.getD x2.toNat E0).1 x1 300 with
   |false=>simp only[Rounds,fn5,g1,hw,Bool.false_and,Bool.not_false,Zj,if_true,if_false]
   |true=>
    cases hc:pA (x3.2.2.1.getD x2.toNat E0).2.1 with
    |false=>simp only[Rounds,fn5,g1,hw,hc,Bool.false_and,Bool.true_and,Bool.not_false,Bool.not_true,Zj,if_true,if_false]
    |true=>
     simp only[Bool.not_true,Zj,if_false,Rounds]
     refine⟨?_,g4,?_⟩
     . simp only[pre5,Zb,Za]
       exact⟨h1,g2,g3⟩
     . simp only[fn5,g1,hw,hc,Bool.true_and]
 . simp only[hlt,decide_false,Zj,if_false,Rounds,fn5]
   rw[Zt (by omega)]
   rfl
theorem eq(x0:iQ)(hw:wf x0):aR x0=some ((),(lY x0,())):=by
 have h1:x0.2.2.1.length<=maxLen:=hw.1.2.2.1.1
 have hpre:pre5 (x0.2.1,((0:Int),(x0,())))=true:=by simp[pre5,h1]
 unfold aR lY rK
 cases ha:aB x0.1 0 300 with
 |false=>simp
 |true=>
  cases hb:aB x0.2.1 0 300 with
  |false=>simp
  |true=>
   have ha':=ha
   simp only[aB,Zb,Za] at ha'
   rw[iX (by omega) (by omega)]
   by_cases hl:(x0.2.2.1.length:Int)<=300-x0.1
   . have hn:¬(300-x0.1<(x0.2.2.1.length:Int)):=by omega
     simp only[Bool.not_true,Zj,if_false,hn,decide_false,hpre,if_true,fn5,Int.toNat_zero,List.drop_zero,hl,decide_true,Bool.true_and]
     cases aAO x0.2.2.1 x0.2.1<;>rfl
   . have hn:300-x0.1<(x0.2.2.1.length:Int):=by omega
     simp[hl,hn]
end lY
theorem dropTake_len{α:Type}(lo hi:Nat)(xs:List α):(bF lo hi xs).length<=xs.length:=by
 simp only[bF,Zr,Zs];omega
def aIN(k:Nat)(out:List UInt8):List UInt8:=
 if k=0 then out else aIN (k/10) (List.append (kZ (wrap .u8 (wrap .i64 (48+Int.tmod (k:Int) 10))::([]:List Int))) out)
termination_by k
decreasing_by omega
theorem aM1(k:Nat)(out:List UInt8):(aIN k out).length<=k+out.length:=by
 induction k using Nat.strongRecOn generalizing out with
 |ind k ih=>
  rw[aIN]
  split
  . omega
  . rename_i h
    refine Nat.le_trans (ih (k/10) (by omega) _) ?_
    simp only[List.append_eq,Zf,kZ,List.map_cons,List.map_nil,Zg,Zh]
    omega
def aE(k:Int):List UInt8:=if k<=0 then[109,48] else 109::aIN k.toNat []
namespace aE
def pre(k:Int):Bool:=decide (k<=2147483648)
abbrev S:=Int×(List UInt8×Unit)
def pre4:S->Bool:=fun s=>decide (0<=s.1)&&decide (s.1.toNat+s.2.1.length<=4294967295)
def fn4:S->List UInt8×Unit:=fun s=>(aIN s.1.toNat s.2.1,())
def qD:S->Nat:=fun s=>s.1.toNat
noncomputable def hJ(x1:Int)(x2:(List UInt8)):Option ((Int×aCq)⊕aCq):=
 if(decide ((0:Int)<x1))=true then
 if(!(decide ((10:Int)=(0:Int))))=true then
 if(decide (length (kZ ((wrap .u8 (wrap .i64 ((48:Int)+(Int.tmod x1 (10:Int)))))::([]:List Int)))+length x2<=lV))=true then
 if(!(decide ((10:Int)=(0:Int))))=true then
 some (.inl ((wrap .i64 (Int.tdiv x1 (10:Int))),((List.append (kZ ((wrap .u8 (wrap .i64 ((48:Int)+(Int.tmod x1 (10:Int)))))::([]:List Int))) x2),())))
 else
 none
 else
 none
 else
 none
 else
 some (.inr (x2,()))
abbrev wf(x0:Int):Prop:=fV [(.val (.int .i64) .f)] (x0,())
noncomputable def aR(x0:Int):Option (Unit×aCq):=
 if(decide (x0<=(0:Int)))=true then
 some ((),(((109:UInt8)::((48:UInt8)::([]:List UInt8))),()))
 else
 if(aE.pre4 (x0,(([]:List UInt8),())))=true then
 if(decide (length ((109:UInt8)::([]:List UInt8))+length (aE.fn4 (x0,(([]:List UInt8),()))).1<=lV))=true then
 some ((),((List.append ((109:UInt8)::([]:List UInt8)) (aE.fn4 (x0,(([]:List UInt8),()))).1),()))
 else
 none
 else
 none
theorem yT(x1:Int)(x2:List UInt8)(hp:pre4 (x1,(x2,()))=true):Rounds pre4 qD fn4 (x1,(x2,())) (hJ x1 x2):=by
 simp only[pre4,Zb,Za] at hp
 obtain⟨h1,h2⟩:=hp
 unfold hJ
 by_cases h:0<x1
 . have hd:Int.tdiv x1 10=x1/10:=Int.tdiv_eq_ediv_of_nonneg h1
   have hn:((x1.toNat:Nat):Int)=x1:=Int.toNat_of_nonneg h1
   rw[if_pos (by simp[h]),if_pos (by decide),if_pos (by simp only[kZ,List.map_cons,List.map_nil,Zg,Zh,Za,lV];omega),if_pos (by decide),hd,iX (by omega) (by omega)]
   simp only[Rounds]
   refine⟨?_,by simp only[qD];omega,?_⟩
   . simp only[pre4,Zb,Za,List.append_eq,Zf,kZ,List.map_cons,List.map_nil,Zg,Zh]
     omega
   . simp only[fn4]
     conv=>rhs;rw[aIN,if_neg (by omega),hn]
     rw[show(x1/10).toNat=x1.toNat/10 by omega]
 . rw[if_neg (by simp[h])]
   simp only[Rounds,fn4]
   rw[show x1.toNat=0 by omega,aIN,if_pos rfl]
theorem eq(x0:Int)(_:wf x0)(hp:pre x0=true):aR x0=some ((),(aE x0,())):=by
 simp only[pre,Za] at hp
 unfold aR aE
 by_cases h:x0<=0
 . simp[h]
 . have hl:=aM1 x0.toNat []
   simp only[Zh,Nat.add_zero] at hl
   have hl':(fn4 (x0,(([]:List UInt8),()))).1.length<=x0.toNat:=hl
   rw[if_neg (by simp[h]),if_pos (show pre4 _=true by simp only[pre4,Zb,Za,Zh];omega),if_pos (by rw[Za];simp only[Zg,Zh,lV];omega),if_neg h]
   rfl
end aE
def mE(k:Int):aL:=(k,((k+1,(k+1+1,(k+1+1+1,(k+1+1+1+1,(k+1+1+1+1+1,(k+1+1+1+1+1+1,(aE (k+1+1+1+1+1+1+1),(aE (k+1+1+1+1+1+1+1+1),())))))))),()))
def qL:Nat->Int->List aL
 |0,_=>[]
 |n+1,k=>mE k::qL n (k+1+1+1+1+1+1+1+1+1)
def cB(xs:List aL)(k:Int):List aL×Int:=(qL xs.length k,k+9*xs.length)
namespace cB
def pre(xs:List aL)(k:Int):Bool:=dJ xs&&(decide (0<=k)&&decide (k<=1073741824))
abbrev S:=Int×(Int×(List aL×Unit))
def pre2:S->Bool:=fun s=>decide (s.2.2.1.length<=16777216)&&(decide (0<=s.2.1)&&(decide (s.2.1.toNat<=s.2.2.1.length)&&(decide (0<=s.1)&&decide (s.1+9*(s.2.2.1.length-s.2.1)<=2147483600))))
def fn2:S->Int×(List aL×Unit):=fun s=>(s.1+9*(s.2.2.1.length-s.2.1),(s.2.2.1.take s.2.1.toNat++qL (s.2.2.1.length-s.2.1.toNat) s.1,()))
def kX:S->Nat:=fun s=>s.2.2.1.length-s.2.1.toNat
noncomputable def cU(x1:Int)(x2:Int)(x3:(List aL)):Option (iQ⊕(Int×((List aL)×Unit))):=
 if(decide (x2<((length x3:Nat):Int)))=true then
 if(decide ((0:Int)<=x2))=true then
 if(decide (x2<((length x3:Nat):Int)))=true then
 if(decide ((0:Int)<=x2))=true then
 if(decide (x2<((length (List.modify x3 (Int.toNat x2) (fun z=>(x1,z.2))):Nat):Int)))=true then
 if(decide ((0:Int)<=x2))=true then
 if(decide (x2<((length (List.modify (List.modify x3 (Int.toNat x2) (fun z=>(x1,z.2))) (Int.toNat x2) (fun z=>(z.1,(((wrap .i64 (x1+(1:Int))),z.2.1.2),z.2.2)))):Nat):Int)))=true then
 if(decide ((0:Int)<=x2))=true then
 if(decide (x2<((length (List.modify (List.modify (List.modify x3 (Int.toNat x2) (fun z=>(x1,z.2))) (Int.toNat x2) (fun z=>(z.1,(((wrap .i64 (x1+(1:Int))),z.2.1.2),z.2.2)))) (Int.toNat x2) (fun z=>(z.1,((z.2.1.1,((wrap .i64 ((wrap .i64 (x1+(1:Int)))+(1:Int))),z.2.1.2.2)),z.2.2)))):Nat):Int)))=true then
 if(decide ((0:Int)<=x2))=true then
 if(decide (x2<((length (List.modify (List.modify (List.modify (List.modify x3 (Int.toNat x2) (fun z=>(x1,z.2))) (Int.toNat x2) (fun z=>(z.1,(((wrap .i64 (x1+(1:Int))),z.2.1.2),z.2.2)))) (Int.toNat x2) (fun z=>(z.1,((z.2.1.1,((wrap .i64 ((wrap .i64 (x1+(1:Int)))+(1:Int))),z.2.1.2.2)),z.2.2)))) (Int.toNat x2) (fun z=>(z.1,((z.2.1.1,(z.2.1.2.1,((wrap .i64 ((wrap .i64 ((wrap .i64 (x1+(1:Int)))+(1:Int)))+(1:Int))),z.2.1.2.2.2))),z.2.2)))):Nat):Int)))=true then
 if(decide ((0:Int)<=x2))=true then
 if(decide (x2<((length (List.modify (List.modify (List.modify (List.modify (List.modify x3 (Int.toNat x2) (fun z=>(x1,z.2))) (Int.toNat x2) (fun z=>(z.1,(((wrap .i64 (x1+(1:Int))),z.2.1.2),z.2.2)))) (Int.toNat x2) (fun z=>(z.1,((z.2.1.1,((wrap .i64 ((wrap .i64 (x1+(1:Int)))+(1:Int))),z.2.1.2.2)),z.2.2)))) (Int.toNat x2) (fun z=>(z.1,((z.2.1.1,(z.2.1.2.1,((wrap .i64 ((wrap .i64 ((wrap .i64 (x1+(1:Int)))+(1:Int)))+(1:Int))),z.2.1.2.2.2))),z.2.2)))) (Int.toNat x2) (fun z=>(z.1,((z.2.1.1,(z.2.1.2.1,(z.2.1.2.2.1,((wrap .i64 ((wrap .i64 ((wrap .i64 ((wrap .i64 (x1+(1:Int)))+(1:Int)))+(1:Int)))+(1:Int))),z.2.1.2.2.2.2)))),z.2.2)))):Nat):Int)))=true then
 if(decide ((0:Int)<=x2))=true then
 if(decide (x2<((length (List.modify (List.modify (List.modify (List.modify (List.modify (List.modify x3 (Int.toNat x2) (fun z=>(x1,z.2))) (Int.toNat x2) (fun z=>(z.1,(((wrap .i64 (x1+(1:Int))),z.2.1.2),z.2.2)))) (Int.toNat x2) (fun z=>(z.1,((z.2.1.1,((wrap .i64 ((wrap .i64 (x1+(1:Int)))+(1:Int))),z.2.1.2.2)),z.2.2)))) (Int.toNat x2) (fun z=>(z.1,((z.2.1.1,(z.2.1.2.1,((wrap .i64 ((wrap .i64 ((wrap .i64 (x1+(1:Int)))+(1:Int)))+(1:Int))),z.2.1.2.2.2))),z.2.2)))) (Int.toNat x2) (fun z=>(z.1,((z.2.1.1,(z.2.1.2.1,(z.2.1.2.2.1,((wrap .i64 ((wrap .i64 ((wrap .i64 ((wrap .i64 (x1+(1:Int)))+(1:Int)))+(1:Int)))+(1:Int))),z.2.1.2.2.2.2)))),z.2.2)))) (Int.toNat x2) (fun z=>(z.1,((z.2.1.1,(z.2.1.2.1,(z.2.1.2.2.1,(z.2.1.2.2.2.1,((wrap .i64 ((wrap .i64 ((wrap .i64 ((wrap .i64 ((wrap .i64 (x1+(1:Int)))+(1:Int)))+(1:Int)))+(1:Int)))+(1:Int))),z.2.1.2.2.2.2.2))))),z.2.2)))):Nat):Int)))=true then
 if(aE.pre (wrap .i64 ((wrap .i64 ((wrap .i64 ((wrap .i64 ((wrap .i64 ((wrap .i64 ((wrap .i64 (x1+(1:Int)))+(1:Int)))+(1:Int)))+(1:Int)))+(1:Int)))+(1:Int)))+(1:Int))))=true then
 if(decide ((0:Int)<=x2))=true then
 if(decide (x2<((length (List.modify (List.modify (List.modify (List.modify (List.modify (List.modify (List.modify x3 (Int.toNat x2) (fun z=>(x1,z.2))) (Int.toNat x2) (fun z=>(z.1,(((wrap .i64 (x1+(1:Int))),z.2.1.2),z.2.2)))) (Int.toNat x2) (fun z=>(z.1,((z.2.1.1,((wrap .i64 ((wrap .i64 (x1+(1:Int)))+(1:Int))),z.2.1.2.2)),z.2.2)))) (Int.toNat x2) (fun z=>(z.1,((z.2.1.1,(z.2.1.2.1,((wrap .i64 ((wrap .i64 ((wrap .i64 (x1+(1:Int)))+(1:Int)))+(1:Int))),z.2.1.2.2.2))),z.2.2)))) (Int.toNat x2) (fun z=>(z.1,((z.2.1.1,(z.2.1.2.1,(z.2.1.2.2.1,((wrap .i64 ((wrap .i64 ((wrap .i64 ((wrap .i64 (x1+(1:Int)))+(1:Int)))+(1:Int)))+(1:Int))),z.2.1.2.2.2.2)))),z.2.2)))) (Int.toNat x2) (fun z=>(z.1,((z.2.1.1,(z.2.1.2.1,(z.2.1.2.2.1,(z.2.1.2.2.2.1,((wrap .i64 ((wrap .i64 ((wrap .i64 ((wrap .i64 ((wrap .i64 (x1+(1:Int)))+(1:Int)))+(1:Int)))+(1:Int)))+(1:Int))),z.2.1.2.2.2.2.2))))),z.2.2)))) (Int.toNat x2) (fun z=>(z.1,((z.2.1.1,(z.2.1.2.1,(z.2.1.2.2.1,(z.2.1.2.2.2.1,(z.2.1.2.2.2.2.1,((wrap .i64 ((wrap .i64 ((wrap .i64 ((wrap .i64 ((wrap .i64 ((wrap .i64 (x1+(1:Int)))+(1:Int)))+(1:Int)))+(1:Int)))+(1:Int)))+(1:Int))),z.2.1.2.2.2.2.2.2)))))),z.2.2)))):Nat):Int)))=true then
 if(aE.pre (wrap .i64 ((wrap .i64 ((wrap .i64 ((wrap .i64 ((wrap .i64 ((wrap .i64 ((wrap .i64 ((wrap .i64 (x1+(1:Int)))+(1:Int)))+(1:Int)))+(1:Int)))+(1:Int)))+(1:Int)))+(1:Int)))+(1:Int))))=true then
 if(decide ((0:Int)<=x2))=true then
 if(decide (x2<((length (List.modify (List.modify (List.modify (List.modify (List.modify (List.modify (List.modify (List.modify x3 (Int.toNat x2) (fun z=>(x1,z.2))) (Int.toNat x2) (fun z=>(z.1,(((wrap .i64 (x1+(1:Int))),z.2.1.2),z.2.2)))) (Int.toNat x2) (fun z=>(z.1,((z.2.1.1,((wrap .i64 ((wrap .i64 (x1+(1:Int)))+(1:Int))),z.2.1.2.2)),z.2.2)))) (Int.toNat x2) (fun z=>(z.1,((z.2.1.1,(z.2.1.2.1,((wrap .i64 ((wrap .i64 ((wrap .i64 (x1+(1:Int)))+(1:Int)))+(1:Int))),z.2.1.2.2.2))),z.2.2)))) (Int.toNat x2) (fun z=>(z.1,((z.2.1.1,(z.2.1.2.1,(z.2.1.2.2.1,((wrap .i64 ((wrap .i64 ((wrap .i64 ((wrap .i64 (x1+(1:Int)))+(1:Int)))+(1:Int)))+(1:Int))),z.2.1.2.2.2.2)))),z.2.2)))) (Int.toNat x2) (fun z=>(z.1,((z.2.1.1,(z.2.1.2.1,(z.2.1.2.2.1,(z.2.1.2.2.2.1,((wrap .i64 ((wrap .i64 ((wrap .i64 ((wrap .i64 ((wrap .i64 (x1+(1:Int)))+(1:Int)))+(1:Int)))+(1:Int)))+(1:Int))),z.2.1.2.2.2.2.2))))),z.2.2)))) (Int.toNat x2) (fun z=>(z.1,((z.2.1.1,(z.2.1.2.1,(z.2.1.2.2.1,(z.2.1.2.2.2.1,(z.2.1.2.2.2.2.1,((wrap .i64 ((wrap .i64 ((wrap .i64 ((wrap .i64 ((wrap .i64 ((wrap .i64 (x1+(1:Int)))+(1:Int)))+(1:Int)))+(1:Int)))+(1:Int)))+(1:Int))),z.2.1.2.2.2.2.2.2)))))),z.2.2)))) (Int.toNat x2) (fun z=>(z.1,((z.2.1.1,(z.2.1.2.1,(z.2.1.2.2.1,(z.2.1.2.2.2.1,(z.2.1.2.2.2.2.1,(z.2.1.2.2.2.2.2.1,((aE (wrap .i64 ((wrap .i64 ((wrap .i64 ((wrap .i64 ((wrap .i64 ((wrap .i64 ((wrap .i64 (x1+(1:Int)))+(1:Int)))+(1:Int)))+(1:Int)))+(1:Int)))+(1:Int)))+(1:Int)))),z.2.1.2.2.2.2.2.2.2))))))),z.2.2)))):Nat):Int)))=true then
 some (.inl ((wrap .i64 ((wrap .i64 ((wrap .i64 ((wrap .i64 ((wrap .i64 ((wrap .i64 ((wrap .i64 ((wrap .i64 ((wrap .i64 (x1+(1:Int)))+(1:Int)))+(1:Int)))+(1:Int)))+(1:Int)))+(1:Int)))+(1:Int)))+(1:Int)))+(1:Int))),((wrap .i64 (x2+(1:Int))),((List.modify (List.modify (List.modify (List.modify (List.modify (List.modify (List.modify (List.modify (List.modify x3 (Int.toNat x2) (fun z=>(x1,z.2))) (Int.toNat x2) (fun z=>(z.1,(((wrap .i64 (x1+(1:Int))),z.2.1.2),z.2.2)))) (Int.toNat x2) (fun z=>(z.1,((z.2.1.1,((wrap .i64 ((wrap .i64 (x1+(1:Int)))+(1:Int))),z.2.1.2.2)),z.2.2)))) (Int.toNat x2) (fun z=>(z.1,((z.2.1.1,(z.2.1.2.1,((wrap .i64 ((wrap .i64 ((wrap .i64 (x1+(1:Int)))+(1:Int)))+(1:Int))),z.2.1.2.2.2))),z.2.2)))) (Int.toNat x2) (fun z=>(z.1,((z.2.1.1,(z.2.1.2.1,(z.2.1.2.2.1,((wrap .i64 ((wrap .i64 ((wrap .i64 ((wrap .i64 (x1+(1:Int)))+(1:Int)))+(1:Int)))+(1:Int))),z.2.1.2.2.2.2)))),z.2.2)))) (Int.toNat x2) (fun z=>(z.1,((z.2.1.1,(z.2.1.2.1,(z.2.1.2.2.1,(z.2.1.2.2.2.1,((wrap .i64 ((wrap .i64 ((wrap .i64 ((wrap .i64 ((wrap .i64 (x1+(1:Int)))+(1:Int)))+(1:Int)))+(1:Int)))+(1:Int))),z.2.1.2.2.2.2.2))))),z.2.2)))) (Int.toNat x2) (fun z=>(z.1,((z.2.1.1,(z.2.1.2.1,(z.2.1.2.2.1,(z.2.1.2.2.2.1,(z.2.1.2.2.2.2.1,((wrap .i64 ((wrap .i64 ((wrap .i64 ((wrap .i64 ((wrap .i64 ((wrap .i64 (x1+(1:Int)))+(1:Int)))+(1:Int)))+(1:Int)))+(1:Int)))+(1:Int))),z.2.1.2.2.2.2.2.2)))))),z.2.2)))) (Int.toNat x2) (fun z=>(z.1,((z.2.1.1,(z.2.1.2.1,(z.2.1.2.2.1,(z.2.1.2.2.2.1,(z.2.1.2.2.2.2.1,(z.2.1.2.2.2.2.2.1,((aE (wrap .i64 ((wrap .i64 ((wrap .i64 ((wrap .i64 ((wrap .i64 ((wrap .i64 ((wrap .i64 (x1+(1:Int)))+(1:Int)))+(1:Int)))+(1:Int)))+(1:Int)))+(1:Int)))+(1:Int)))),z.2.1.2.2.2.2.2.2.2))))))),z.2.2)))) (Int.toNat x2) (fun z=>(z.1,((z.2.1.1,(z.2.1.2.1,(z.2.1.2.2.1,(z.2.1.2.2.2.1,(z.2.1.2.2.2.2.1,(z.2.1.2.2.2.2.2.1,(z.2.1.2.2.2.2.2.2.1,((aE (wrap .i64 ((wrap .i64 ((wrap .i64 ((wrap .i64 ((wrap .i64 ((wrap .i64 ((wrap .i64 ((wrap .i64 (x1+(1:Int)))+(1:Int)))+(1:Int)))+(1:Int)))+(1:Int)))+(1:Int)))+(1:Int)))+(1:Int)))),z.2.1.2.2.2.2.2.2.2.2)))))))),z.2.2)))),()))))
 else
 none
 else
 none
 else
 none
 else
 none
 else
 none
 else
 none
 else
 none
 else
 none
 else
 none
 else
 none
 else
 none
 else
 none
 else
 none
 else
 none
 else
 none
 else
 none
 else
 none
 else
 none
 else
 none
 else
 none
 else
 some (.inr (x1,(x3,())))
abbrev wf(x0:(List aL))(x1:Int):Prop:=fV [(.mut (.sl 0 zk2)),(.val (.int .i64) .f)] (x0,(x1,()))
noncomputable def aR(x0:(List aL))(x1:Int):Option (((List aL)×Unit)×(Int×Unit)):=
 if(cB.pre2 (x1,((0:Int),(x0,()))))=true then
 some ((cB.fn2 (x1,((0:Int),(x0,())))).2,((cB.fn2 (x1,((0:Int),(x0,())))).1,()))
 else
 none
theorem qG(x1 x2:Int)(x3:List aL)(hp:pre2 (x1,(x2,(x3,())))=true):Rounds pre2 kX fn2 (x1,(x2,(x3,()))) (cU x1 x2 x3):=by
 simp only[pre2,Zb,Za] at hp
 obtain⟨h1,h2,h3,h4,h5⟩:=hp
 unfold cU
 by_cases hlt:x2<(x3.length:Int)
 . have hn:x2.toNat<x3.length:=by omega
   have w1:wrap .i64 (x1+1)=x1+1:=iX (by omega) (by omega)
   have w2:wrap .i64 (x1+1+1)=x1+1+1:=iX (by omega) (by omega)
   have w3:wrap .i64 (x1+1+1+1)=x1+1+1+1:=iX (by omega) (by omega)
   have w4:wrap .i64 (x1+1+1+1+1)=x1+1+1+1+1:=iX (by omega) (by omega)
   have w5:wrap .i64 (x1+1+1+1+1+1)=x1+1+1+1+1+1:=iX (by omega) (by omega)
   have w6:wrap .i64 (x1+1+1+1+1+1+1)=x1+1+1+1+1+1+1:=iX (by omega) (by omega)
   have w7:wrap .i64 (x1+1+1+1+1+1+1+1)=x1+1+1+1+1+1+1+1:=iX (by omega) (by omega)
   have w8:wrap .i64 (x1+1+1+1+1+1+1+1+1)=x1+1+1+1+1+1+1+1+1:=iX (by omega) (by omega)
   have w9:wrap .i64 (x1+1+1+1+1+1+1+1+1+1)=x1+1+1+1+1+1+1+1+1+1:=iX (by omega) (by omega)
   have p7:aE.pre (x1+1+1+1+1+1+1+1)=true:=by simp only[aE.pre,Za];omega
   have p8:aE.pre (x1+1+1+1+1+1+1+1+1)=true:=by simp only[aE.pre,Za];omega
   simp only[List.length_modify,hlt,h2,decide_true,if_true,w1,w2,w3,w4,w5,w6,w7,w8,w9,p7,p8,iX (n:=x2+1) (by omega) (by omega)]
   simp only[List.modify_modify_eq]
   have hm:=aBP x3 x2.toNat (mE x1)
   refine(?_:Rounds pre2 kX fn2 (x1,(x2,(x3,()))) (some (.inl (x1+1+1+1+1+1+1+1+1+1,(x2+1,(x3.modify x2.toNat (fun _=>mE x1),()))))))
   rw[hm]
   simp only[Rounds]
   refine⟨?_,by simp only[kX,List.length_set];omega,?_⟩
   . simp only[pre2,Zb,Za,List.length_set]
     omega
   . simp only[fn2,List.length_set,show(x2+1).toNat=x2.toNat+1 by omega]
     rw[show x3.length-x2.toNat=(x3.length-(x2.toNat+1))+1 by omega]
     simp only[qL]
     rw[List.take_add_one,List.take_set_of_le (by omega),List.getElem?_set_self (by omega)]
     refine Prod.ext (by show _=_;omega) (Prod.ext ?_ rfl)
     simp
 . simp only[hlt,decide_false,Zj,if_false,Rounds,fn2]
   rw[show x3.length-x2.toNat=0 by omega,show x2.toNat=x3.length by omega]
   refine Prod.ext (by show _=_;omega) (Prod.ext ?_ rfl)
   simp[qL]
theorem eq(x0:List aL)(x1:Int)(_:wf x0 x1)(hp:pre x0 x1=true):aR x0 x1=some (((cB x0 x1).1,()),((cB x0 x1).2,())):=by
 simp only[pre,Zb,Za,cC] at hp
 unfold aR cB
 rw[if_pos (show pre2 _=true by simp only[pre2,Zb,Za];simp;omega)]
 simp[fn2]
end cB
def gW(x:iQ)(k:Int):iQ×Int:=((x.1,(x.2.1,(qL x.2.2.1.length k,()))),k+9*x.2.2.1.length)
namespace gW
def pre(x:iQ)(k:Int):Bool:=cB.pre x.2.2.1 k
abbrev wf(x0:iQ)(x1:Int):Prop:=fV [(.mut aAj),(.val (.int .i64) .f)] (x0,(x1,()))
noncomputable def aR(x0:iQ)(x1:Int):Option ((iQ×Unit)×(Int×Unit)):=
 if(cB.pre x0.2.2.1 x1)=true then
 some (((x0.1,(x0.2.1,((cB x0.2.2.1 x1).1,x0.2.2.2))),()),((cB x0.2.2.1 x1).2,()))
 else
 none
theorem eq(x0:iQ)(x1:Int)(_:wf x0 x1)(hp:pre x0 x1=true):aR x0 x1=some (((gW x0 x1).1,()),((gW x0 x1).2,())):=by
 unfold aR
 rw[if_pos (show cB.pre _ _=true from hp)]
 rfl
end gW
open Classical in
noncomputable def cX(xs:List aL)(k:Int):Int:=if xs=qL xs.length k then k+9*xs.length else -1
namespace cX
def pre(xs:List aL)(k:Int):Bool:=cB.pre xs k
abbrev S:=List aL×(Int×(Int×Unit))
def pre2:S->Bool:=fun s=>decide (s.1.length<=16777216)&&(decide (0<=s.2.2.1)&&(decide (s.2.2.1.toNat<=s.1.length)&&(decide (0<=s.2.1)&&decide (s.2.1+9*(s.1.length-s.2.2.1)<=2147483600))))
open Classical in
noncomputable def fn2:S->(Int×Unit)⊕(Int×Unit):=fun s=>if s.1.drop s.2.2.1.toNat=qL (s.1.length-s.2.2.1.toNat) s.2.1 then .inr (s.2.1+9*(s.1.length-s.2.2.1),()) else .inl (-1,())
def kX:S->Nat:=fun s=>s.1.length-s.2.2.1.toNat
noncomputable def cU(x1:(List aL))(x2:Int)(x3:Int):Option (((List aL)×eQ)⊕((Int×Unit)⊕(Int×Unit))):=
 if(decide (x3<((length x1:Nat):Int)))=true then
 if(decide ((0:Int)<=x3))=true then
 if(decide (x3<((length x1:Nat):Int)))=true then
 if(!(decide ((List.getD x1 (Int.toNat x3) wX).1=x2)))=true then
 some (.inr (.inl ((-1:Int),())))
 else
 if(decide ((0:Int)<=x3))=true then
 if(decide (x3<((length x1:Nat):Int)))=true then
 if(!(decide ((List.getD x1 (Int.toNat x3) wX).2.1.1=(wrap .i64 (x2+(1:Int))))))=true then
 some (.inr (.inl ((-1:Int),())))
 else
 if(decide ((0:Int)<=x3))=true then
 if(decide (x3<((length x1:Nat):Int)))=true then
 if(!(decide ((List.getD x1 (Int.toNat x3) wX).2.1.2.1=(wrap .i64 ((wrap .i64 (x2+(1:Int)))+(1:Int))))))=true then
 some (.inr (.inl ((-1:Int),())))
 else
 if(decide ((0:Int)<=x3))=true then
 if(decide (x3<((length x1:Nat):Int)))=true then
 if(!(decide ((List.getD x1 (Int.toNat x3) wX).2.1.2.2.1=(wrap .i64 ((wrap .i64 ((wrap .i64 (x2+(1:Int)))+(1:Int)))+(1:Int))))))=true then
 some (.inr (.inl ((-1:Int),())))
 else
 if(decide ((0:Int)<=x3))=true then
 if(decide (x3<((length x1:Nat):Int)))=true then
 if(!(decide ((List.getD x1 (Int.toNat x3) wX).2.1.2.2.2.1=(wrap .i64 ((wrap .i64 ((wrap .i64 ((wrap .i64 (x2+(1:Int)))+(1:Int)))+(1:Int)))+(1:Int))))))=true then
 some (.inr (.inl ((-1:Int),())))
 else
 if(decide ((0:Int)<=x3))=true then
 if(decide (x3<((length x1:Nat):Int)))=true then
 if(!(decide ((List.getD x1 (Int.toNat x3) wX).2.1.2.2.2.2.1=(wrap .i64 ((wrap .i64 ((wrap .i64 ((wrap .i64 ((wrap .i64 (x2+(1:Int)))+(1:Int)))+(1:Int)))+(1:Int)))+(1:Int))))))=true then
 some (.inr (.inl ((-1:Int),())))
 else
 if(decide ((0:Int)<=x3))=true then
 if(decide (x3<((length x1:Nat):Int)))=true then
 if(!(decide ((List.getD x1 (Int.toNat x3) wX).2.1.2.2.2.2.2.1=(wrap .i64 ((wrap .i64 ((wrap .i64 ((wrap .i64 ((wrap .i64 ((wrap .i64 (x2+(1:Int)))+(1:Int)))+(1:Int)))+(1:Int)))+(1:Int)))+(1:Int))))))=true then
 some (.inr (.inl ((-1:Int),())))
 else
 if(decide ((0:Int)<=x3))=true then
 if(decide (x3<((length x1:Nat):Int)))=true then
 if(aE.pre (wrap .i64 ((wrap .i64 ((wrap .i64 ((wrap .i64 ((wrap .i64 ((wrap .i64 ((wrap .i64 (x2+(1:Int)))+(1:Int)))+(1:Int)))+(1:Int)))+(1:Int)))+(1:Int)))+(1:Int))))=true then
 if(!((List.getD x1 (Int.toNat x3) wX).2.1.2.2.2.2.2.2.1==(aE (wrap .i64 ((wrap .i64 ((wrap .i64 ((wrap .i64 ((wrap .i64 ((wrap .i64 ((wrap .i64 (x2+(1:Int)))+(1:Int)))+(1:Int)))+(1:Int)))+(1:Int)))+(1:Int)))+(1:Int))))))=true then
 some (.inr (.inl ((-1:Int),())))
 else
 if(decide ((0:Int)<=x3))=true then
 if(decide (x3<((length x1:Nat):Int)))=true then
 if(aE.pre (wrap .i64 ((wrap .i64 ((wrap .i64 ((wrap .i64 ((wrap .i64 ((wrap .i64 ((wrap .i64 ((wrap .i64 (x2+(1:Int)))+(1:Int)))+(1:Int)))+(1:Int)))+(1:Int)))+(1:Int)))+(1:Int)))+(1:Int))))=true then
 if(!((List.getD x1 (Int.toNat x3) wX).2.1.2.2.2.2.2.2.2.1==(aE (wrap .i64 ((wrap .i64 ((wrap .i64 ((wrap .i64 ((wrap .i64 ((wrap .i64 ((wrap .i64 ((wrap .i64 (x2+(1:Int)))+(1:Int)))+(1:Int)))+(1:Int)))+(1:Int)))+(1:Int)))+(1:Int)))+(1:Int))))))=true then
 some (.inr (.inl ((-1:Int),())))
 else
 some (.inl (x1,((wrap .i64 ((wrap .i64 ((wrap .i64 ((wrap .i64 ((wrap .i64 ((wrap .i64 ((wrap .i64 ((wrap .i64 ((wrap .i64 (x2+(1:Int)))+(1:Int)))+(1:Int)))+(1:Int)))+(1:Int)))+(1:Int)))+(1:Int)))+(1:Int)))+(1:Int))),((wrap .i64 (x3+(1:Int))),()))))
 else
 none
 else
 none
 else
 none
 else
 none
 else
 none
 else
 none
 else
 none
 else
 none
 else
 none
 else
 none
 else
 none
 else
 none
 else
 none
 else
 none
 else
 none
 else
 none
 else
 none
 else
 none
 else
 none
 else
 none
 else
 some (.inr (.inr (x2,())))
abbrev wf(x0:(List aL))(x1:Int):Prop:=fV [(.val (.sl 0 zk2) .f),(.val (.int .i64) .f)] (x0,(x1,()))
noncomputable def aR(x0:(List aL))(x1:Int):Option xS:=
 if(cX.pre2 (x0,(x1,((0:Int),()))))=true then
  match(cX.fn2 (x0,(x1,((0:Int),())))) with
  |.inl y=>
   some ((),y)
  |.inr y=>
   some ((),y)
 else
  none
theorem qG(x1:List aL)(x2 x3:Int)(hp:pre2 (x1,(x2,(x3,())))=true):Rounds pre2 kX fn2 (x1,(x2,(x3,()))) (cU x1 x2 x3):=by
 simp only[pre2,Zb,Za] at hp
 obtain⟨h1,h2,h3,h4,h5⟩:=hp
 unfold cU
 by_cases hlt:x3<(x1.length:Int)
 . have hn:x3.toNat<x1.length:=by omega
   have e1:=Zn hn
   have e2:x1.length-x3.toNat=(x1.length-(x3.toNat+1))+1:=by omega
   have w1:wrap .i64 (x2+1)=x2+1:=iX (by omega) (by omega)
   have w2:wrap .i64 (x2+1+1)=x2+1+1:=iX (by omega) (by omega)
   have w3:wrap .i64 (x2+1+1+1)=x2+1+1+1:=iX (by omega) (by omega)
   have w4:wrap .i64 (x2+1+1+1+1)=x2+1+1+1+1:=iX (by omega) (by omega)
   have w5:wrap .i64 (x2+1+1+1+1+1)=x2+1+1+1+1+1:=iX (by omega) (by omega)
   have w6:wrap .i64 (x2+1+1+1+1+1+1)=x2+1+1+1+1+1+1:=iX (by omega) (by omega)
   have w7:wrap .i64 (x2+1+1+1+1+1+1+1)=x2+1+1+1+1+1+1+1:=iX (by omega) (by omega)
   have w8:wrap .i64 (x2+1+1+1+1+1+1+1+1)=x2+1+1+1+1+1+1+1+1:=iX (by omega) (by omega)
   have w9:wrap .i64 (x2+1+1+1+1+1+1+1+1+1)=x2+1+1+1+1+1+1+1+1+1:=iX (by omega) (by omega)
   have p7:aE.pre (x2+1+1+1+1+1+1+1)=true:=by simp only[aE.pre,Za];omega
   have p8:aE.pre (x2+1+1+1+1+1+1+1+1)=true:=by simp only[aE.pre,Za];omega
   simp only[hlt,h2,decide_true,if_true,w1,w2,w3,w4,w5,w6,w7,w8,w9,p7,p8,iX (n:=x3+1) (by omega) (by omega),eZ hn]
   generalize x1[x3.toNat]=e at e1
   have good:e=mE x2->Rounds pre2 kX fn2 (x1,(x2,(x3,()))) (some (.inl (x1,(x2+1+1+1+1+1+1+1+1+1,(x3+1,()))))):=by
    intro he
    simp only[Rounds]
    refine⟨?_,by simp only[kX];omega,?_⟩
    . simp only[pre2,Zb,Za]
      omega
    . have hi:x1.drop (x3+1).toNat=qL (x1.length-(x3+1).toNat) (x2+1+1+1+1+1+1+1+1+1)↔x1.drop x3.toNat=qL (x1.length-x3.toNat) x2:=by
       rw[show(x3+1).toNat=x3.toNat+1 by omega,e1,e2,qL,he,List.cons.injEq];simp
      simp only[fn2]
      by_cases hc:x1.drop x3.toNat=qL (x1.length-x3.toNat) x2
      . rw[if_pos hc,if_pos (hi.2 hc)]
        congr 2<;>omega
      . rw[if_neg hc,if_neg (fun h=>hc (hi.1 h))]
   have xX:¬e=mE x2->Rounds pre2 kX fn2 (x1,(x2,(x3,()))) (some (.inr (.inl (-1,())))):=by
    intro he
    simp only[Rounds,fn2]
    rw[if_neg]
    rw[e1,e2,qL,List.cons.injEq]
    exact fun h=>he h.1
   obtain⟨t,⟨a1,a2,a3,a4,a5,a6,a7,a8,_⟩,_⟩:=e
   simp only[Bool.not_eq_true',Zv,beq_eq_false_iff_ne,ne_eq]
   by_cases c0:t=x2
   case neg=>rw[if_pos c0];exact xX fun h=>c0 (congrArg (fun e:aL=>e.1) h)
   rw[if_neg (by simp[c0])]
   by_cases c1:a1=x2+1
   case neg=>rw[if_pos c1];exact xX fun h=>c1 (congrArg (fun e:aL=>e.2.1.1) h)
   rw[if_neg (by simp[c1])]
   by_cases c2:a2=x2+1+1
   case neg=>rw[if_pos c2];exact xX fun h=>c2 (congrArg (fun e:aL=>e.2.1.2.1) h)
   rw[if_neg (by simp[c2])]
   by_cases c3:a3=x2+1+1+1
   case neg=>rw[if_pos c3];exact xX fun h=>c3 (congrArg (fun e:aL=>e.2.1.2.2.1) h)
   rw[if_neg (by simp[c3])]
   by_cases c4:a4=x2+1+1+1+1
   case neg=>rw[if_pos c4];exact xX fun h=>c4 (congrArg (fun e:aL=>e.2.1.2.2.2.1) h)
   rw[if_neg (by simp[c4])]
   by_cases c5:a5=x2+1+1+1+1+1
   case neg=>rw[if_pos c5];exact xX fun h=>c5 (congrArg (fun e:aL=>e.2.1.2.2.2.2.1) h)
   rw[if_neg (by simp[c5])]
   by_cases c6:a6=x2+1+1+1+1+1+1
   case neg=>rw[if_pos c6];exact xX fun h=>c6 (congrArg (fun e:aL=>e.2.1.2.2.2.2.2.1) h)
   rw[if_neg (by simp[c6])]
   by_cases c7:a7=aE (x2+1+1+1+1+1+1+1)
   case neg=>rw[if_pos c7];exact xX fun h=>c7 (congrArg (fun e:aL=>e.2.1.2.2.2.2.2.2.1) h)
   rw[if_neg (by simp[c7])]
   by_cases c8:a8=aE (x2+1+1+1+1+1+1+1+1)
   case neg=>rw[if_pos c8];exact xX fun h=>c8 (congrArg (fun e:aL=>e.2.1.2.2.2.2.2.2.2.1) h)
   rw[if_neg (by simp[c8])]
   exact good (by subst c0;subst c1;subst c2;subst c3;subst c4;subst c5;subst c6;subst c7;subst c8;rfl)
 . simp only[hlt,decide_false,Zj,if_false,Rounds,fn2]
   rw[Zt (by omega),show x1.length-x3.toNat=0 by omega,qL,if_pos rfl]
   congr 2<;>omega
theorem eq(x0:List aL)(x1:Int)(_:wf x0 x1)(hp:pre x0 x1=true):aR x0 x1=some ((),(cX x0 x1,())):=by
 simp only[pre,cB.pre,Zb,Za,cC] at hp
 unfold aR cX
 rw[if_pos (show pre2 _=true by simp only[pre2,Zb,Za];simp;omega)]
 by_cases he:x0=qL x0.length x1
 . have hf:fn2 (x0,(x1,((0:Int),())))=.inr (x1+9*((x0.length:Int)-0),()):=if_pos he
   rw[hf,if_pos he]
   simp
 . have hf:fn2 (x0,(x1,((0:Int),())))=.inl (-1,()):=if_neg he
   rw[hf,if_neg he]
end cX
noncomputable def fA(x:iQ)(k:Int):Int:=let r:=cX x.2.2.1 k;if r<0 then -1 else r
namespace fA
def pre(x:iQ)(k:Int):Bool:=cB.pre x.2.2.1 k
abbrev wf(x0:iQ)(x1:Int):Prop:=fV [(.val aAj .f),(.val (.int .i64) .f)] (x0,(x1,()))
noncomputable def aR(x0:iQ)(x1:Int):Option xS:=
 if(cX.pre x0.2.2.1 x1)=true then
 if(decide ((cX x0.2.2.1 x1)<(0:Int)))=true then
 some ((),((-1:Int),()))
 else
 some ((),((cX x0.2.2.1 x1),()))
 else
 none
theorem eq(x0:iQ)(x1:Int)(_:wf x0 x1)(hp:pre x0 x1=true):aR x0 x1=some ((),(fA x0 x1,())):=by
 unfold aR fA
 rw[if_pos (show cX.pre _ _=true from hp)]
 simp only[Za]
 split<;>rfl
end fA
def cG(l:iQ)(i:Int):Int:=if i<=l.1\/300<i\/l.1<0\/(l.2.2.1.length:Int)<=i-l.1-1 then -1 else i-l.1-1
namespace cG
abbrev wf(x0:iQ)(x1:Int):Prop:=fV [(.val aAj .f),(.val (.int .i64) .f)] (x0,(x1,()))
noncomputable def aR(x0:iQ)(x1:Int):Option xS:=
 if(decide (x1<=x0.1))=true then
 some ((),((-1:Int),()))
 else
 if(decide ((300:Int)<x1))=true then
 some ((),((-1:Int),()))
 else
 if(decide (x0.1<(0:Int)))=true then
 some ((),((-1:Int),()))
 else
 if(decide (((length x0.2.2.1:Nat):Int)<=(wrap .i64 ((wrap .i64 (x1-x0.1))-(1:Int)))))=true then
 some ((),((-1:Int),()))
 else
 some ((),((wrap .i64 ((wrap .i64 (x1-x0.1))-(1:Int))),()))
theorem eq(x0:iQ)(x1:Int)(_:wf x0 x1):aR x0 x1=some ((),(cG x0 x1,())):=by
 unfold aR cG
 by_cases h1:x1<=x0.1
 . simp[h1]
 by_cases h2:300<x1
 . simp[h1,h2]
 by_cases h3:x0.1<0
 . simp[h1,h2,h3]
 rw[iX (n:=x1-x0.1) (by omega) (by omega),iX (n:=x1-x0.1-1) (by omega) (by omega)]
 by_cases h4:(x0.2.2.1.length:Int)<=x1-x0.1-1<;>simp[h1,h2,h3,h4]
end cG
def aBJ(l:iQ)(i:Int):iQ:=if cG l i<0 then l else(i,((l.2.2.1.getD (cG l i).toNat E0).1,(l.2.2.1.drop ((cG l i).toNat+1),())))
abbrev lQ:=aBJ
abbrev lT:=aBJ
theorem aBU{α:Type}(n:Nat)(xs:List α):bF n xs.length xs=xs.drop n:=by
 simp only[bF]
 rw[List.take_of_length_le (by simp)]
section
variable {α:Type}
def vS(g:α->Bool):List α->Int->Int
 |[],_=>-1
 |a::r,i=>if g a=true then i else vS g r (i+1)
theorem aBQ(g:α->Bool):(xs:List α)->(i:Int)->0<=i->-1<=vS g xs i/\(0<=vS g xs i↔xs.any g=true)
 |[],i,h=>by simp[vS]
 |a::r,i,h=>by
  simp only[vS,List.any_cons]
  by_cases ha:g a=true
  . simp[ha];omega
  . have:=aBQ g r (i+1) (by omega)
    simp only[Bool.not_eq_true] at ha
    simp only[ha,Zj,if_false,Bool.false_or]
    exact this
abbrev IxS(α:Type):=List α×((α->Bool)×((α->Bool)×(Int×(Int×Unit))))
def tI:IxS α->Bool:=fun s=>decide (s.1.length<=maxLen)&&(decide (s.2.2.2.1=(s.1.length:Int))&&(decide (0<=s.2.2.2.2.1)&&(decide (s.2.2.2.2.1.toNat<=s.1.length)&&s.1.all s.2.1)))
def aC3:IxS α->(Int×Unit)⊕Unit:=fun s=>if vS s.2.2.1 (s.1.drop s.2.2.2.2.1.toNat) s.2.2.2.2.1<0 then .inr () else .inl (vS s.2.2.1 (s.1.drop s.2.2.2.2.1.toNat) s.2.2.2.2.1,())
def aHa:IxS α->Nat:=fun s=>s.1.length-s.2.2.2.2.1.toNat
theorem aCi{x1:List α}{x2 x3:α->Bool}{x4 x5:Int}(hp:tI (x1,(x2,(x3,(x4,(x5,())))))=true)(hlt:x5<x4)(d:α):
 0<=x5/\x5<(x1.length:Int)/\x2 (x1.getD x5.toNat d)=true/\(x3 (x1.getD x5.toNat d)=true->Rounds tI aHa aC3 (x1,(x2,(x3,(x4,(x5,()))))) (some (.inr (.inl (x5,())))))/\
  (¬x3 (x1.getD x5.toNat d)=true->Rounds tI aHa aC3 (x1,(x2,(x3,(x4,(x5,()))))) (some (.inl (x1,(x2,(x3,(x4,(wrap .i64 (x5+1),())))))))):=by
 simp only[tI,Zb,Za] at hp
 obtain⟨h1,rfl,h3,h4,h5⟩:=hp
 have hM:=lJ
 have hn:x5.toNat<x1.length:=by omega
 have e1:=Zn hn
 rw[eZ hn]
 refine⟨h3,hlt,Zu.1 h5 _ (List.getElem_mem hn),fun he=>?_,fun he=>?_⟩
 . simp only[Rounds,aC3,e1,vS,he,if_true]
   rw[if_neg (by omega)]
 . simp only[Rounds,iX (n:=x5+1) (by omega) (by omega)]
   refine⟨?_,by simp only[aHa];omega,?_⟩
   . simp only[tI,Zb,Za]
     exact⟨h1,trivial,by omega,by omega,h5⟩
   . simp only[aC3,show(x5+1).toNat=x5.toNat+1 by omega,e1,vS,he,if_false]
     rfl
theorem aDZ{x1:List α}{x2 x3:α->Bool}{x4 x5:Int}(hp:tI (x1,(x2,(x3,(x4,(x5,())))))=true)(hlt:¬x5<x4):
 Rounds tI aHa aC3 (x1,(x2,(x3,(x4,(x5,()))))) (some (.inr (.inr ()))):=by
 simp only[tI,Zb,Za] at hp
 obtain⟨h1,rfl,h3,h4,h5⟩:=hp
 simp only[Rounds,aC3]
 rw[Zt (by omega)]
 rfl
end
def cI(xs:List aL)(p:(aL->Bool)×(aL->Bool)):Int:=vS p.2 xs 0
namespace cI
def pre(xs:List aL)(p:(aL->Bool)×(aL->Bool)):Bool:=xs.all p.1
def pre2:=tI (α:=aL)
def fn2:=aC3 (α:=aL)
def kX:=aHa (α:=aL)
noncomputable def cU(x1:(List aL))(x2:(aL->Bool))(x3:(aL->Bool))(x4:Int)(x5:Int):Option (((List aL)×((aL->Bool)×((aL->Bool)×eQ)))⊕((Int×Unit)⊕Unit)):=
 if(decide (x5<x4))=true then
 if(decide ((0:Int)<=x5))=true then
 if(decide (x5<((length x1:Nat):Int)))=true then
 if(x2 (List.getD x1 (Int.toNat x5) wX))=true then
 if(x3 (List.getD x1 (Int.toNat x5) wX))=true then
 some (.inr (.inl (x5,())))
 else
 some (.inl (x1,(x2,(x3,(x4,((wrap .i64 (x5+(1:Int))),()))))))
 else
 none
 else
 none
 else
 none
 else
 some (.inr (.inr ()))
abbrev wf(x0:(List aL))(x1:((aL->Bool)×(aL->Bool))):Prop:=fV [(.val (.sl 0 zk2) .f),(.fn zk2 .bool)] (x0,(x1,()))
noncomputable def aR(x0:(List aL))(x1:((aL->Bool)×(aL->Bool))):Option xS:=
 if(cI.pre2 (x0,(x1.1,(x1.2,(((length x0:Nat):Int),((0:Int),()))))))=true then
  match(cI.fn2 (x0,(x1.1,(x1.2,(((length x0:Nat):Int),((0:Int),())))))) with
  |.inl y=>
   some ((),y)
  |.inr y=>
   some ((),((-1:Int),()))
 else
  none
theorem qG(x1:List aL)(x2 x3:aL->Bool)(x4 x5:Int)(hp:pre2 (x1,(x2,(x3,(x4,(x5,())))))=true):Rounds pre2 kX fn2 (x1,(x2,(x3,(x4,(x5,()))))) (cU x1 x2 x3 x4 x5):=by
 unfold cU
 by_cases hlt:x5<x4
 . obtain⟨h1,h2,h3,h4,h5⟩:=aCi hp hlt E0
   simp only[hlt,h1,h2,h3,decide_true,if_true]
   split
   . rename_i h;exact h4 h
   . rename_i h;exact h5 h
 . simp only[hlt,decide_false,Zj,if_false]
   exact aDZ hp hlt
theorem eq(x0:List aL)(x1:(aL->Bool)×(aL->Bool))(hw:wf x0 x1)(hp:pre x0 x1=true):aR x0 x1=some ((),(cI x0 x1,())):=by
 have h1:x0.length<=maxLen:=hw.1.1
 unfold aR
 rw[if_pos (show pre2 _=true by simp only[pre2,tI,Zb,Za];exact⟨h1,trivial,by omega,by simp,hp⟩)]
 have hlo:=(aBQ x1.2 x0 0 (by omega)).1
 by_cases h:vS x1.2 x0 0<0
 . have hf:fn2 (x0,(x1.1,(x1.2,(((x0.length:Nat):Int),((0:Int),())))))=.inr ():=if_pos h
   rw[hf]
   show _=some ((),(vS x1.2 x0 0,()))
   rw[show vS x1.2 x0 0=-1 by omega]
 . have hf:fn2 (x0,(x1.1,(x1.2,(((x0.length:Nat):Int),((0:Int),())))))=.inl (vS x1.2 x0 0,()):=if_neg h
   rw[hf];rfl
end cI
def bS(xs:List aL)(p:(aL->Bool)×(aL->Bool)):Bool:=xs.any p.2
namespace bS
def pre(xs:List aL)(p:(aL->Bool)×(aL->Bool)):Bool:=xs.all p.1
abbrev wf(x0:(List aL))(x1:((aL->Bool)×(aL->Bool))):Prop:=fV [(.val (.sl 0 zk2) .f),(.fn zk2 .bool)] (x0,(x1,()))
noncomputable def aR(x0:(List aL))(x1:((aL->Bool)×(aL->Bool))):Option lA:=
 if(cI.pre x0 x1)=true then
 some ((),((decide ((0:Int)<=(cI x0 x1))),()))
 else
 none
theorem eq(x0:List aL)(x1:(aL->Bool)×(aL->Bool))(_:wf x0 x1)(hp:pre x0 x1=true):aR x0 x1=some ((),(bS x0 x1,())):=by
 unfold aR bS cI
 rw[if_pos (show cI.pre _ _=true from hp)]
 have h:=(aBQ x1.2 x0 0 (by omega)).2
 by_cases ha:x0.any x1.2=true
 . rw[ha,Zd (h.2 ha)]
 . have h0:¬0<=vS x1.2 x0 0:=fun hh=>ha (h.1 hh)
   rw[decide_eq_false h0]
   simp only[Bool.not_eq_true] at ha
   rw[ha]
end bS
def eOk(t:Int)(e:aL):Bool:=aB e.1 0 t&&pA e.2.1
def iM(e:aL):Bool:=!eOk 300 e
namespace iM
abbrev wf(x0:aL):Prop:=fV [(.val zk2 .f)] (x0,())
noncomputable def aR(x0:aL):Option lA:=
 if(!(aB x0.1 (0:Int) (300:Int)))=true then
 some ((),(true,()))
 else
 some ((),((!(pA x0.2.1)),()))
theorem eq(x0:aL)(_:wf x0):aR x0=some ((),(iM x0,())):=by
 unfold aR iM eOk
 cases aB x0.1 0 300<;>simp
end iM
def gT(xs:List aL)(t:Int):Bool:=xs.all (eOk t)&&decide (xs.length<=40)
namespace gT
abbrev S:=List aL×(Int×(Int×Unit))
def pre2:S->Bool:=fun s=>decide (s.1.length<=maxLen)&&(decide (0<=s.2.2.1)&&decide (s.2.2.1.toNat<=s.1.length))
def fn2:S->(Bool×Unit)⊕(List aL×Unit):=fun s=>if(s.1.drop s.2.2.1.toNat).all (eOk s.2.1)=true then .inr (s.1,()) else .inl (false,())
def kX:S->Nat:=fun s=>s.1.length-s.2.2.1.toNat
noncomputable def cU(x1:(List aL))(x2:Int)(x3:Int):Option (((List aL)×eQ)⊕((Bool×Unit)⊕((List aL)×Unit))):=
 if(decide (x3<((length x1:Nat):Int)))=true then
 if(decide ((0:Int)<=x3))=true then
 if(decide (x3<((length x1:Nat):Int)))=true then
 if(!(aB (List.getD x1 (Int.toNat x3) wX).1 (0:Int) x2))=true then
 some (.inr (.inl (false,())))
 else
 if(decide ((0:Int)<=x3))=true then
 if(decide (x3<((length x1:Nat):Int)))=true then
 if(!(pA (List.getD x1 (Int.toNat x3) wX).2.1))=true then
 some (.inr (.inl (false,())))
 else
 some (.inl (x1,(x2,((wrap .i64 (x3+(1:Int))),()))))
 else
 none
 else
 none
 else
 none
 else
 none
 else
 some (.inr (.inr (x1,())))
abbrev wf(x0:(List aL))(x1:Int):Prop:=fV [(.val (.sl 0 zk2) .f),(.val (.int .i64) .f)] (x0,(x1,()))
noncomputable def aR(x0:(List aL))(x1:Int):Option lA:=
 if(gT.pre2 (x0,(x1,((0:Int),()))))=true then
  match(gT.fn2 (x0,(x1,((0:Int),())))) with
  |.inl y=>
   some ((),y)
  |.inr y=>
   some ((),((decide (((length y.1:Nat):Int)<=(40:Int))),()))
 else
  none
theorem qG(x1:List aL)(x2 x3:Int)(hp:pre2 (x1,(x2,(x3,())))=true):Rounds pre2 kX fn2 (x1,(x2,(x3,()))) (cU x1 x2 x3):=by
 simp only[pre2,Zb,Za] at hp
 obtain⟨h1,h2,h3⟩:=hp
 have hM:=lJ
 unfold cU
 by_cases hlt:x3<(x1.length:Int)
 . have hn:x3.toNat<x1.length:=by omega
   have e1:=Zn hn
   simp only[hlt,h2,decide_true,if_true,eZ hn]
   cases ha:aB (x1[x3.toNat]).1 0 x2 with
   |false=>simp only[Rounds,fn2,e1,List.all_cons,eOk,ha,Bool.false_and,Bool.not_false,Zj,if_true,if_false]
   |true=>
    cases hb:pA (x1[x3.toNat]).2.1 with
    |false=>simp only[Rounds,fn2,e1,List.all_cons,eOk,ha,hb,Bool.true_and,Bool.false_and,Bool.not_false,Bool.not_true,Zj,if_true,if_false]
    |true=>
     simp only[Bool.not_true,Zj,if_false,Rounds,iX (n:=x3+1) (by omega) (by omega)]
     refine⟨?_,by simp only[kX];omega,?_⟩
     . simp only[pre2,Zb,Za]
       exact⟨h1,by omega,by omega⟩
     . simp only[fn2,show(x3+1).toNat=x3.toNat+1 by omega,e1,List.all_cons]
       rw[show eOk x2 x1[x3.toNat]=true by simp[eOk,ha,hb],Bool.true_and]
 . simp only[hlt,decide_false,Zj,if_false,Rounds,fn2]
   rw[Zt (by omega)]
   rfl
theorem eq(x0:List aL)(x1:Int)(hw:wf x0 x1):aR x0 x1=some ((),(gT x0 x1,())):=by
 have h1:x0.length<=maxLen:=hw.1.1
 unfold aR gT
 rw[if_pos (show pre2 _=true by simp[pre2,h1])]
 by_cases ha:x0.all (eOk x1)=true
 . have hf:fn2 (x0,(x1,((0:Int),())))=.inr (x0,()):=if_pos ha
   rw[hf,ha]
   by_cases hl:x0.length<=40
   . simp[hl];omega
   . simp[hl];omega
 . have hf:fn2 (x0,(x1,((0:Int),())))=.inl (false,()):=if_neg ha
   rw[hf]
   simp only[Bool.not_eq_true] at ha
   simp[ha]
end gT
def aH9(r:eF):Bool:=
 if r.1=1 then aB r.2.2.1 (-1) 4&&(decide (r.2.2.2.1=0)&&(decide ((r.2.2.2.2.1.length:Int)=0)&&r.2.2.2.2.2.1==[]))
 else if r.1=2 then decide (r.2.2.1=0)&&r.2.2.2.2.2.1==[]
 else if r.1=3 then decide (r.2.2.1=0)&&decide ((r.2.2.2.2.1.length:Int)=0)
 else false
def jG(r:eF):Bool:=aB r.2.1 0 300&&(aB r.2.2.2.1 0 300&&(gT r.2.2.2.2.1 300&&(decide ((r.2.2.2.2.2.1.length:Int)<=30000)&&aH9 r)))
abbrev kT:=jG
abbrev mN:=jG
theorem aGR{α:Type}(f:α->Bool)(xs:List α):xs.any (fun x=>!f x)=!xs.all f:=by
 induction xs with
 |nil=>rfl
 |cons a r ih=>simp[ih,Bool.not_and]
namespace mN
abbrev wf(x0:eF):Prop:=fV [(.val aIc .f)] (x0,())
noncomputable def aR(x0:eF):Option lA:=
 if(!(aB x0.2.1 (0:Int) (300:Int)))=true then
 some ((),(false,()))
 else
 if(!(aB x0.2.2.2.1 (0:Int) (300:Int)))=true then
 some ((),(false,()))
 else
 if(!(gT x0.2.2.2.2.1 (300:Int)))=true then
 some ((),(false,()))
 else
 if(decide ((30000:Int)<((length x0.2.2.2.2.2.1:Nat):Int)))=true then
 some ((),(false,()))
 else
 if(decide (x0.1=(1:Int)))=true then
 if(aB x0.2.2.1 (-1:Int) (4:Int))=true then
 if(decide (x0.2.2.2.1=(0:Int)))=true then
 if(decide (((length x0.2.2.2.2.1:Nat):Int)=(0:Int)))=true then
 some ((),((x0.2.2.2.2.2.1==([]:List UInt8)),()))
 else
 some ((),(false,()))
 else
 some ((),(false,()))
 else
 some ((),(false,()))
 else
 if(decide (x0.1=(2:Int)))=true then
 if(decide (x0.2.2.1=(0:Int)))=true then
 some ((),((x0.2.2.2.2.2.1==([]:List UInt8)),()))
 else
 some ((),(false,()))
 else
 if(decide (x0.1=(3:Int)))=true then
 if(decide (x0.2.2.1=(0:Int)))=true then
 some ((),((decide (((length x0.2.2.2.2.1:Nat):Int)=(0:Int))),()))
 else
 some ((),(false,()))
 else
 some ((),(false,()))
theorem eq(x0:eF)(_:wf x0):aR x0=some ((),(mN x0,())):=by
 unfold aR mN jG aH9
 cases aB x0.2.1 0 300
 . simp
 cases aB x0.2.2.2.1 0 300
 . simp
 cases gT x0.2.2.2.2.1 300
 . simp
 by_cases hs:(x0.2.2.2.2.2.1.length:Int)<=30000
 case neg=>
  have hs':(30000:Int)<(x0.2.2.2.2.2.1.length:Int):=by omega
  simp[hs,hs']
 have hs':¬(30000:Int)<(x0.2.2.2.2.2.1.length:Int):=by omega
 simp only[hs,hs',decide_true,decide_false,Bool.not_true,Zj,if_false,Bool.true_and,Za]
 split
 . cases aB x0.2.2.1 (-1) 4<;>simp only[Zj,if_false,if_true,Bool.false_and,Bool.true_and]
   split
   . rename_i h;simp only[h,decide_true,Bool.true_and]
     split
     . rename_i h;simp only[h,decide_true,Bool.true_and]
     . rename_i h;simp only[h,decide_false,Bool.false_and]
   . rename_i h;simp only[h,decide_false,Bool.false_and]
 split
 . split
   . rename_i h;simp only[h,decide_true,Bool.true_and]
   . rename_i h;simp only[h,decide_false,Bool.false_and]
 split
 . split
   . rename_i h;simp only[h,decide_true,Bool.true_and]
   . rename_i h;simp only[h,decide_false,Bool.false_and]
 . rfl
end mN
namespace kT
abbrev wf(x0:eF):Prop:=fV [(.val aIc .f)] (x0,())
noncomputable def aR(x0:eF):Option lA:=
 if(!(aB x0.2.1 (0:Int) (300:Int)))=true then
 some ((),(false,()))
 else
 if(!(aB x0.2.2.2.1 (0:Int) (300:Int)))=true then
 some ((),(false,()))
 else
 if(decide ((40:Int)<((length x0.2.2.2.2.1:Nat):Int)))=true then
 some ((),(false,()))
 else
 if(decide ((30000:Int)<((length x0.2.2.2.2.2.1:Nat):Int)))=true then
 some ((),(false,()))
 else
 if(bS.pre x0.2.2.2.2.1 ((fun x=>true),(fun x=>(iM x))))=true then
 if(bS x0.2.2.2.2.1 ((fun x=>true),(fun x=>(iM x))))=true then
 some ((),(false,()))
 else
 if(decide (x0.1=(1:Int)))=true then
 if(aB x0.2.2.1 (-1:Int) (4:Int))=true then
 if(decide (x0.2.2.2.1=(0:Int)))=true then
 if(decide (((length x0.2.2.2.2.1:Nat):Int)=(0:Int)))=true then
 some ((),((x0.2.2.2.2.2.1==([]:List UInt8)),()))
 else
 some ((),(false,()))
 else
 some ((),(false,()))
 else
 some ((),(false,()))
 else
 if(decide (x0.1=(2:Int)))=true then
 if(decide (x0.2.2.1=(0:Int)))=true then
 some ((),((x0.2.2.2.2.2.1==([]:List UInt8)),()))
 else
 some ((),(false,()))
 else
 if(decide (x0.1=(3:Int)))=true then
 if(decide (x0.2.2.1=(0:Int)))=true then
 some ((),((decide (((length x0.2.2.2.2.1:Nat):Int)=(0:Int))),()))
 else
 some ((),(false,()))
 else
 some ((),(false,()))
 else
 none
theorem eq(x0:eF)(_:wf x0):aR x0=some ((),(kT x0,())):=by
 unfold aR kT jG aH9 gT
 cases aB x0.2.1 0 300
 . simp
 cases aB x0.2.2.2.1 0 300
 . simp
 by_cases hl:(x0.2.2.2.2.1.length:Int)<=40
 case neg=>
  have hl':(40:Int)<(x0.2.2.2.2.1.length:Int):=by omega
  have hl2:¬x0.2.2.2.2.1.length<=40:=by omega
  simp[hl',hl2]
 have hl':¬(40:Int)<(x0.2.2.2.2.1.length:Int):=by omega
 have hl2:x0.2.2.2.2.1.length<=40:=by omega
 by_cases hs:(x0.2.2.2.2.2.1.length:Int)<=30000
 case neg=>
  have hs':(30000:Int)<(x0.2.2.2.2.2.1.length:Int):=by omega
  simp[hs,hs',hl']
 have hs':¬(30000:Int)<(x0.2.2.2.2.2.1.length:Int):=by omega
 have hpre:bS.pre x0.2.2.2.2.1 ((fun _=>true),(fun x=>iM x))=true:=by simp[bS.pre]
 have hany:bS x0.2.2.2.2.1 ((fun _=>true),(fun x=>iM x))=!x0.2.2.2.2.1.all (eOk 300):=aGR (eOk 300) _
 simp only[hl',hs',hs,hl2,hpre,hany,decide_true,decide_false,Bool.not_true,Zj,if_false,if_true,Bool.true_and,Bool.and_true,Za]
 cases x0.2.2.2.2.1.all (eOk 300)
 . simp
 simp only[Bool.not_true,Zj,if_false,Bool.true_and]
 split
 . cases aB x0.2.2.1 (-1) 4<;>simp only[Zj,if_false,if_true,Bool.false_and,Bool.true_and]
   split
   . rename_i h;simp only[h,decide_true,Bool.true_and]
     split
     . rename_i h;simp only[h,decide_true,Bool.true_and]
     . rename_i h;simp only[h,decide_false,Bool.false_and]
   . rename_i h;simp only[h,decide_false,Bool.false_and]
 split
 . split
   . rename_i h;simp only[h,decide_true,Bool.true_and]
   . rename_i h;simp only[h,decide_false,Bool.false_and]
 split
 . split
   . rename_i h;simp only[h,decide_true,Bool.true_and]
   . rename_i h;simp only[h,decide_false,Bool.false_and]
 . rfl
end kT
theorem tR{n lo hi:Int}(h:aB n lo hi=true):lo<=n/\n<=hi:=by
 simpa [aB] using h
theorem sC{w:Nat}{x:Int}(h0:0<=x)(h1:x.toNat<2^w):(BitVec.ofInt w x).toNat=x.toNat:=by
 rw[BitVec.toNat_ofInt]
 have:x%((2^w:Nat):Int)=x:=Int.emod_eq_of_lt h0 (by omega)
 rw[this]
theorem aNF{x:Int}(h0:0<=x)(h1:x<=9223372036854775807):intBits .and .i64 x 127=x%128:=by
 show wrap .i64 (((BitVec.ofInt 64 x)&&&(BitVec.ofInt 64 127)).toNat:Int)=_
 rw[BitVec.toNat_and,sC h0 (by omega),sC (by omega) (by decide)]
 have:x.toNat&&&Int.toNat 127=x.toNat%128:=Nat.and_two_pow_sub_one_eq_mod x.toNat 7
 rw[this]
 have e:((x.toNat%128:Nat):Int)=x%128:=by omega
 rw[e,iX (by omega) (by omega)]
theorem aMT{x:Int}(h0:0<=x)(h1:x<=255):intBits .and .u8 x 127=x%128:=by
 show wrap .u8 (((BitVec.ofInt 8 x)&&&(BitVec.ofInt 8 127)).toNat:Int)=_
 rw[BitVec.toNat_and,sC h0 (by omega),sC (by omega) (by decide)]
 have:x.toNat&&&Int.toNat 127=x.toNat%128:=Nat.and_two_pow_sub_one_eq_mod x.toNat 7
 rw[this]
 have e:((x.toNat%128:Nat):Int)=x%128:=by omega
 rw[e,w8 (by omega) (by omega)]
theorem aOF{x:Int}(h0:0<=x)(h1:x<128):intBits .or .u8 x 128=x+128:=by
 show wrap .u8 (((BitVec.ofInt 8 x)|||(BitVec.ofInt 8 128)).toNat:Int)=_
 rw[BitVec.toNat_or,sC h0 (by omega),sC (by omega) (by decide)]
 have:x.toNat|||Int.toNat 128=128*1+x.toNat:=by
  rw[Nat.or_comm]
  exact(Nat.two_pow_add_eq_or_of_lt (i:=7) (b:=x.toNat) (by omega) 1).symm
 rw[this]
 have e:((128*1+x.toNat:Nat):Int)=x+128:=by omega
 rw[e,w8 (by omega) (by omega)]
theorem aId{n d:Int}{k:Nat}(h0:0<=n)(h1:n<128^k)(h2:0<=d)(h3:d<128)(hk:k<=4):intBits .or .i64 n (wrap .i64 (d*2^(7*k)))=n+d*128^k:=by
 have hp:(2:Int)^(7*k)=128^k:=by rw[Int.pow_mul];rfl
 have hpn:(128:Int)^k<=268435456:=by
  have:k=0\/k=1\/k=2\/k=3\/k=4:=by omega
  rcases this with rfl|rfl|rfl|rfl|rfl<;>decide
 have hpos:(0:Int)<128^k:=Int.pow_pos (by decide)
 have hd:d*128^k<=127*268435456:=Int.mul_le_mul (by omega) hpn (by omega) (by omega)
 have hd0:0<=d*128^k:=Int.mul_nonneg h2 (by omega)
 rw[hp,iX (by omega) (by omega)]
 show wrap .i64 (((BitVec.ofInt 64 n)|||(BitVec.ofInt 64 (d*128^k))).toNat:Int)=_
 rw[BitVec.toNat_or,sC h0 (by omega),sC hd0 (by omega)]
 have e0:(d*128^k).toNat=2^(7*k)*d.toNat:=by
  have:d*128^k=((2^(7*k)*d.toNat:Nat):Int):=by
   rw[Int.natCast_mul,Int.natCast_pow,Int.toNat_of_nonneg h2,<-hp,Int.mul_comm];rfl
  rw[this];rfl
 have hn:n.toNat<2^(7*k):=by
  have:(n.toNat:Int)<((2^(7*k):Nat):Int):=by
   rw[Int.toNat_of_nonneg h0,Int.natCast_pow]
   show n<2^(7*k)
   rw[hp];exact h1
  omega
 rw[Nat.or_comm,e0,<-Nat.two_pow_add_eq_or_of_lt hn,<-e0]
 have e:(((d*128^k).toNat+n.toNat:Nat):Int)=n+d*128^k:=by omega
 rw[e,iX (by omega) (by omega)]
theorem aOs(x:Int):Int.fdiv x (2^min (Int.toNat (7:Int)) (IntKind.bits .i64))=x/128:=by
 show Int.fdiv x 128=_
 rw[Int.fdiv_eq_ediv_of_nonneg _ (by decide)]
def aE8(n:Nat):List Int:=if n<=127 then[] else((n%128+128:Nat):Int)::aE8 (n/128)
termination_by n
decreasing_by omega
def aFs(n:Nat):Nat:=if n<=127 then n else aFs (n/128)
termination_by n
decreasing_by omega
def aGF(n:Nat):List Int:=aE8 n++[(aFs n:Int)]
def pD(n:Int):List Int:=if 0<=n/\n<=2147483647 then aGF n.toNat else[]
abbrev iN:=pD
theorem aMl(n:Nat):aFs n<=127:=by
 induction n using Nat.strongRecOn with
 |ind n ih=>
  rw[aFs]
  split
  . assumption
  . exact ih _ (by omega)
theorem aE2:(k:Nat)->{n:Nat}->n<128^(k+1)->(aE8 n).length<=k
 |0,n,h=>by rw[aE8,if_pos (by omega)];simp
 |k+1,n,h=>by
  rw[aE8]
  split
  . simp
  . rw[Zg]
    have:=aE2 k (n:=n/128) (by rw[Nat.pow_succ] at h;omega)
    omega
theorem nF(n:Int):(pD n).length<=5:=by
 unfold pD
 split
 . rw[aGF,Zf]
   have:=aE2 4 (n:=n.toNat) (by omega)
   simpa using this
 . simp
abbrev PnS:=Int×(List Int×Unit)
def aBj:PnS->Bool:=fun s=>decide (0<=s.1)&&(decide (s.1<=2147483647)&&decide (s.2.1.length+s.1.toNat<=2147483700))
def aL5:PnS->PnS:=fun s=>((aFs s.1.toNat:Int),(s.2.1++aE8 s.1.toNat,()))
def aMg:PnS->Nat:=fun s=>s.1.toNat
theorem aNe{n:Int}{out:List Int}(hp:aBj (n,(out,()))=true)(h:127<n):Rounds aBj aMg aL5 (n,(out,())) (some (.inl (n/128,(out++[n%128+128],())))):=by
 simp only[aBj,Zb,Za] at hp
 obtain⟨h0,h1,h2⟩:=hp
 simp only[Rounds]
 refine⟨?_,by simp only[aMg];omega,?_⟩
 . simp only[aBj,Zb,Za,Zf,Zg,Zh]
   omega
 . simp only[aL5]
   have e:(n/128).toNat=n.toNat/128:=by omega
   have e2:((n.toNat%128+128:Nat):Int)=n%128+128:=by omega
   rw[e]
   conv=>rhs;rw[aFs,if_neg (by omega),aE8,if_neg (by omega),e2]
   simp
theorem aNx{n:Int}{out:List Int}(hp:aBj (n,(out,()))=true)(h:¬127<n):Rounds aBj aMg aL5 (n,(out,())) (some (.inr (n,(out,())))):=by
 simp only[aBj,Zb,Za] at hp
 obtain⟨h0,h1,h2⟩:=hp
 simp only[Rounds,aL5]
 rw[aFs,if_pos (by omega),aE8,if_pos (by omega),Int.toNat_of_nonneg h0,List.append_nil]
namespace iN
def pre4:=aBj
def fn4:=aL5
def qD:=aMg
noncomputable def hJ(x1:Int)(x2:(List Int)):Option ((Int×tH)⊕(Int×tH)):=
 if(decide ((127:Int)<x1))=true then
 if(decide (length x2+length ((intBits .or .u8 (wrap .u8 (intBits .and .i64 x1 (127:Int))) (128:Int))::([]:List Int))<=lV))=true then
 if(decide ((0:Int)<=(7:Int)))=true then
 some (.inl ((Int.fdiv x1 (2^min (Int.toNat (7:Int)) (IntKind.bits .i64))),((List.append x2 ((intBits .or .u8 (wrap .u8 (intBits .and .i64 x1 (127:Int))) (128:Int))::([]:List Int))),())))
 else
 none
 else
 none
 else
 some (.inr (x1,(x2,())))
abbrev wf(x0:Int):Prop:=fV [(.val (.int .i64) .f)] (x0,())
noncomputable def aR(x0:Int):Option (Unit×tH):=
 if(!(aB x0 (0:Int) (2147483647:Int)))=true then
 some ((),(([]:List Int),()))
 else
 if(iN.pre4 (x0,(([]:List Int),())))=true then
 if(decide (length (iN.fn4 (x0,(([]:List Int),()))).2.1+length ((wrap .u8 (iN.fn4 (x0,(([]:List Int),()))).1)::([]:List Int))<=lV))=true then
 some ((),((List.append (iN.fn4 (x0,(([]:List Int),()))).2.1 ((wrap .u8 (iN.fn4 (x0,(([]:List Int),()))).1)::([]:List Int))),()))
 else
 none
 else
 none
theorem yT(x1:Int)(x2:List Int)(hp:pre4 (x1,(x2,()))=true):Rounds pre4 qD fn4 (x1,(x2,())) (hJ x1 x2):=by
 have hp':=hp
 simp only[pre4,aBj,Zb,Za] at hp'
 obtain⟨h0,h1,h2⟩:=hp'
 unfold hJ
 by_cases h:127<x1
 . rw[aNF h0 (by omega),w8 (n:=x1%128) (by omega) (by omega),aOF (by omega) (by omega),aOs]
   rw[if_pos (by simp[h]),if_pos (by simp only[Zg,Zh,Za,lV];omega),if_pos (by decide)]
   exact aNe hp h
 . rw[if_neg (by simp[h])]
   exact aNx hp h
theorem eq(x0:Int)(_:wf x0):aR x0=some ((),(iN x0,())):=by
 unfold aR iN pD aB
 by_cases h:0<=x0/\x0<=2147483647
 . have hl:=aE2 4 (n:=x0.toNat) (by omega)
   have hz:=aMl x0.toNat
   rw[if_neg (by simp[h]),if_pos (show pre4 _=true by simp[pre4,aBj];omega)]
   have hf:fn4 (x0,(([]:List Int),()))=((aFs x0.toNat:Int),([]++aE8 x0.toNat,())):=rfl
   rw[hf,if_pos (by simp only[List.nil_append,Zg,Zh,Za,lV];omega),if_pos h]
   simp only[List.nil_append,List.append_eq,aGF]
   rw[w8 (by omega) (by omega)]
 . rw[if_pos (by simp only[Bool.not_eq_true',Bool.and_eq_false_iff,Zv];omega),if_neg h]
end iN
def rB(s:List UInt8):List Int:=pD s.length++fT s
abbrev eX:=rB
def aEq(s:List UInt8):Bool:=decide (s.length<=1073741824)
theorem uK(s:List UInt8):(rB s).length<=s.length+5:=by
 have:=nF s.length
 simp only[rB,Zf,fT,List.length_map];omega
namespace eX
def pre:=aEq
abbrev wf(x0:(List UInt8)):Prop:=fV [(.val .str .f)] (x0,())
noncomputable def aR(x0:(List UInt8)):Option (Unit×tH):=
 letB (pD ((length x0:Nat):Int)) fun v1=>
 if(decide (length v1+length (fT x0)<=lV))=true then
 some ((),((List.append v1 (fT x0)),()))
 else
 none
theorem eq(x0:List UInt8)(_:wf x0)(hp:pre x0=true):aR x0=some ((),(eX x0,())):=by
 have hl:=nF x0.length
 simp only[pre,aEq,Za] at hp
 unfold aR
 simp only[letB]
 rw[if_pos (by simp only[fT,List.length_map,Za,lV];omega)]
 rfl
end eX
def yE(xs:List Int):List Int:=xs.flatMap pD
abbrev gB:=yE
theorem aEn:(xs:List Int)->(yE xs).length<=5*xs.length
 |[]=>by simp[yE]
 |a::r=>by
  have:=nF a
  have:=aEn r
  simp only[yE,List.flatMap_cons,Zf,Zg] at *
  omega
def aC2(xs:List Int):Bool:=dJ xs
namespace gB
def pre:=aC2
abbrev S:=List Int×(Int×(Int×(List Int×Unit)))
def pre3:S->Bool:=fun s=>dJ s.1&&(decide (s.2.1=(s.1.length:Int))&&(decide (0<=s.2.2.1)&&(decide (s.2.2.1.toNat<=s.1.length)&&decide (s.2.2.2.1.length<=5*s.2.2.1.toNat))))
def fn3:S->List Int×Unit:=fun s=>(s.2.2.2.1++yE (s.1.drop s.2.2.1.toNat),())
def mu3:S->Nat:=fun s=>s.1.length-s.2.2.1.toNat
noncomputable def pK(x1:(List Int))(x2:Int)(x3:Int)(x4:(List Int)):Option (((List Int)×(Int×(Int×tH)))⊕tH):=
 if(decide (x3<x2))=true then
 if(decide ((0:Int)<=x3))=true then
 if(decide (x3<((length x1:Nat):Int)))=true then
 if(decide (length x4+length (pD (List.getD x1 (Int.toNat x3) (0:Int)))<=lV))=true then
 some (.inl (x1,(x2,((wrap .i64 (x3+(1:Int))),((List.append x4 (pD (List.getD x1 (Int.toNat x3) (0:Int)))),())))))
 else
 none
 else
 none
 else
 none
 else
 some (.inr (x4,()))
abbrev wf(x0:(List Int)):Prop:=fV [(.val (.sl 0 (.int .i64)) .f)] (x0,())
noncomputable def aR(x0:(List Int)):Option (Unit×tH):=
 if(gB.pre3 (x0,(((length x0:Nat):Int),((0:Int),(([]:List Int),())))))=true then
 some ((),(gB.fn3 (x0,(((length x0:Nat):Int),((0:Int),(([]:List Int),()))))))
 else
 none
theorem ok3(x1:List Int)(x2 x3:Int)(x4:List Int)(hp:pre3 (x1,(x2,(x3,(x4,()))))=true):Rounds pre3 mu3 fn3 (x1,(x2,(x3,(x4,())))) (pK x1 x2 x3 x4):=by
 simp only[pre3,Zb,Za,cC] at hp
 obtain⟨h1,rfl,h2,h3,h4⟩:=hp
 unfold pK
 by_cases hlt:x3<(x1.length:Int)
 . have hn:x3.toNat<x1.length:=by omega
   have hl:=nF (x1.getD x3.toNat 0)
   rw[if_pos (by simp[hlt]),if_pos (by simp[h2]),if_pos (by simp[hlt]),if_pos (by simp only[Za,lV];omega),iX (n:=x3+1) (by omega) (by omega)]
   simp only[Rounds]
   refine⟨?_,by simp only[mu3];omega,?_⟩
   . simp only[pre3,Zb,Za,cC,List.append_eq,Zf,true_and]
     refine⟨h1,by omega,by omega,by omega⟩
   . simp only[fn3,show(x3+1).toNat=x3.toNat+1 by omega]
     rw[Zn hn,eZ hn]
     simp only[yE,List.flatMap_cons,List.append_eq,Zk]
 . rw[if_neg (by simp[hlt])]
   simp only[Rounds,fn3]
   rw[Zt (by omega)]
   simp[yE]
theorem eq(x0:List Int)(_:wf x0)(hp:pre x0=true):aR x0=some ((),(gB x0,())):=by
 unfold aR
 rw[if_pos (show pre3 _=true by simp[pre3,show dJ x0=true from hp])]
 simp[fn3]
end gB
def dP(_:Int):List Int:=[]
namespace dP
def pre(n:Int):Bool:=decide (0<=n)&&decide (n<=4294967296)
abbrev wf(x0:Int):Prop:=fV [(.nil 5 (.int .u8)),(.val (.int .i64) .f)] (x0,())
noncomputable def aR(x0:Int):Option (Unit×tH):=
 if(decide (x0<(0:Int)))=true then
 none
 else
 if(decide ((0:Int)<(wrap .i64 (x0-(wrap .i64 ((0:Int)-(0:Int)))))))=true then
 if(decide ((0:Int)=(0:Int)))=true then
 if(decide ((0:Int)=(0:Int)))=true then
 if(decide ((0:Int)<=(wrap .i64 (x0-(wrap .i64 ((0:Int)-(0:Int)))))))=true then
 if(decide ((wrap .i64 (x0-(wrap .i64 ((0:Int)-(0:Int)))))<=(4294967296:Int)))=true then
 if(decide ((0:Int)<=(0:Int)))=true then
 if(decide ((0:Int)<=(0:Int)))=true then
 if(decide ((0:Int)<=((length (List.replicate (Int.toNat (wrap .i64 (x0-(wrap .i64 ((0:Int)-(0:Int)))))) (0:Int)):Nat):Int)))=true then
 some ((),((bF (Int.toNat (0:Int)) (Int.toNat (0:Int)) (List.replicate (Int.toNat (wrap .i64 (x0-(wrap .i64 ((0:Int)-(0:Int)))))) (0:Int))),()))
 else
 none
 else
 none
 else
 none
 else
 none
 else
 none
 else
 none
 else
 none
 else
 some ((),(([]:List Int),()))
theorem eq(x0:Int)(_:wf x0)(hp:pre x0=true):aR x0=some ((),(dP x0,())):=by
 simp only[pre,Zb,Za] at hp
 have h0:wrap .i64 ((0:Int)-0)=0:=by decide
 unfold aR
 rw[h0,iX (n:=x0-0) (by omega) (by omega)]
 have hn:¬x0<0:=by omega
 by_cases h:0<x0
 . have h1:0<=x0:=by omega
   simp[hn,h,h1,hp.2,bF,dP]
   omega
 . simp[hn,h,dP]
end dP
def aY(xs:List (List Int)):List Int:=xs.flatten
theorem yF(xs:List (List Int))(i:Nat)(h:i<xs.length):(xs.drop i).flatten.length=xs[i].length+(xs.drop (i+1)).flatten.length:=by
 rw[Zn h,List.flatten_cons,Zf]
namespace aY
def pre(xs:List (List Int)):Bool:=decide (xs.flatten.length<=4294967296)&&dJ xs
abbrev S3:=List (List Int)×(Int×(List (List Int)×(Int×(Int×Unit))))
def pre3:S3->Bool:=fun s=>dJ s.2.2.1&&(decide (s.1=s.2.2.1)&&(decide (s.2.2.2.1=(s.2.2.1.length:Int))&&(decide (0<=s.2.2.2.2.1)&&(decide (s.2.2.2.2.1.toNat<=s.2.2.1.length)&&(decide (0<=s.2.1)&&decide (s.2.1+((s.2.2.1.drop s.2.2.2.2.1.toNat).flatten.length:Int)<=4294967296))))))
def fn3:S3->List (List Int)×(Int×Unit):=fun s=>(s.1,(s.2.1+((s.2.2.1.drop s.2.2.2.2.1.toNat).flatten.length:Int),()))
def mu3:S3->Nat:=fun s=>s.2.2.1.length-s.2.2.2.2.1.toNat
abbrev S11:=List (List Int)×(Int×(Int×(List Int×Unit)))
def pre11:S11->Bool:=fun s=>dJ s.1&&(decide (s.2.1=(s.1.length:Int))&&(decide (0<=s.2.2.1)&&(decide (s.2.2.1.toNat<=s.1.length)&&decide (s.2.2.2.1.length+(s.1.drop s.2.2.1.toNat).flatten.length<=4294967296))))
def fn11:S11->List Int×Unit:=fun s=>(s.2.2.2.1++(s.1.drop s.2.2.1.toNat).flatten,())
def aKp:S11->Nat:=fun s=>s.1.length-s.2.2.1.toNat
noncomputable def pK(x1:(List (List Int)))(x2:Int)(x3:(List (List Int)))(x4:Int)(x5:Int):Option (((List (List Int))×(Int×((List (List Int))×eQ)))⊕((List (List Int))×(Int×Unit))):=
 if(decide (x5<x4))=true then
 if(decide ((0:Int)<=x5))=true then
 if(decide (x5<((length x3:Nat):Int)))=true then
 if(decide ((wrap .i64 (x2+((length (List.getD x3 (Int.toNat x5) ([]:List Int)):Nat):Int)))<(0:Int)))=true then
 none
 else
 some (.inl (x1,((wrap .i64 (x2+((length (List.getD x3 (Int.toNat x5) ([]:List Int)):Nat):Int))),(x3,(x4,((wrap .i64 (x5+(1:Int))),()))))))
 else
 none
 else
 none
 else
 some (.inr (x1,(x2,())))
noncomputable def aDS(x1:(List (List Int)))(x2:Int)(x3:Int)(x4:(List Int)):Option (((List (List Int))×(Int×(Int×tH)))⊕tH):=
 if(decide (x3<x2))=true then
 if(decide ((0:Int)<=x3))=true then
 if(decide (x3<((length x1:Nat):Int)))=true then
 if(decide (length x4+length (List.getD x1 (Int.toNat x3) ([]:List Int))<=lV))=true then
 some (.inl (x1,(x2,((wrap .i64 (x3+(1:Int))),((List.append x4 (List.getD x1 (Int.toNat x3) ([]:List Int))),())))))
 else
 none
 else
 none
 else
 none
 else
 some (.inr (x4,()))
abbrev wf(x0:(List (List Int))):Prop:=fV [(.val (.sl 0 wQ) .f)] (x0,())
noncomputable def aR(x0:(List (List Int))):Option (Unit×tH):=
 if(aY.pre3 (x0,((0:Int),(x0,(((length x0:Nat):Int),((0:Int),()))))))=true then
 letB (aY.fn3 (x0,((0:Int),(x0,(((length x0:Nat):Int),((0:Int),())))))) fun v1=>
 if(dP.pre v1.2.1)=true then
 letB (dP v1.2.1) fun v2=>
 if(aY.pre11 (v1.1,(((length v1.1:Nat):Int),((0:Int),(v2,())))))=true then
 letB (aY.fn11 (v1.1,(((length v1.1:Nat):Int),((0:Int),(v2,()))))) fun v3=>
 some ((),v3)
 else
 none
 else
 none
 else
 none
theorem ok3(x1:List (List Int))(x2:Int)(x3:List (List Int))(x4 x5:Int)(hp:pre3 (x1,(x2,(x3,(x4,(x5,())))))=true):Rounds pre3 mu3 fn3 (x1,(x2,(x3,(x4,(x5,()))))) (pK x1 x2 x3 x4 x5):=by
 simp only[pre3,Zb,Za,cC] at hp
 obtain⟨h1,rfl,rfl,h2,h3,h4,h5⟩:=hp
 unfold pK
 by_cases hlt:x5<(x1.length:Int)
 . have hn:x5.toNat<x1.length:=by omega
   have hc:=yF x1 x5.toNat hn
   rw[eZ hn,if_pos (by simp[hlt]),if_pos (by simp[h2]),if_pos (by simp[hlt]),iX (n:=x2+_) (by omega) (by omega),if_neg (by simp only[Za];omega),iX (by omega) (by omega)]
   simp only[Rounds]
   refine⟨?_,by simp only[mu3];omega,?_⟩
   . simp only[pre3,Zb,Za,cC,show(x5+1).toNat=x5.toNat+1 by omega]
     refine⟨h1,trivial,trivial,by omega,by omega,by omega,by omega⟩
   . simp only[fn3,show(x5+1).toNat=x5.toNat+1 by omega,hc]
     refine Prod.ext rfl (Prod.ext ?_ rfl)
     show _=_
     push_cast;omega
 . rw[if_neg (by simp[hlt])]
   simp only[Rounds,fn3]
   rw[Zt (by omega)]
   simp
theorem aNN(x1:List (List Int))(x2 x3:Int)(x4:List Int)(hp:pre11 (x1,(x2,(x3,(x4,()))))=true):Rounds pre11 aKp fn11 (x1,(x2,(x3,(x4,())))) (aDS x1 x2 x3 x4):=by
 simp only[pre11,Zb,Za,cC] at hp
 obtain⟨h1,rfl,h2,h3,h4⟩:=hp
 unfold aDS
 by_cases hlt:x3<(x1.length:Int)
 . have hn:x3.toNat<x1.length:=by omega
   have hc:=yF x1 x3.toNat hn
   rw[eZ hn,if_pos (by simp[hlt]),if_pos (by simp[h2]),if_pos (by simp[hlt]),if_pos (by simp only[Za,lV];omega),iX (by omega) (by omega)]
   simp only[Rounds]
   refine⟨?_,by simp only[aKp];omega,?_⟩
   . simp only[pre11,Zb,Za,cC,List.append_eq,Zf,show(x3+1).toNat=x3.toNat+1 by omega]
     refine⟨h1,trivial,by omega,by omega,by omega⟩
   . simp only[fn11,show(x3+1).toNat=x3.toNat+1 by omega]
     rw[Zn hn]
     simp only[List.flatten_cons,List.append_eq,Zk]
 . rw[if_neg (by simp[hlt])]
   simp only[Rounds,fn11]
   rw[Zt (by omega)]
   simp
theorem eq(x0:List (List Int))(_:wf x0)(hp:pre x0=true):aR x0=some ((),(aY x0,())):=by
 simp only[pre,Zb,Za] at hp
 obtain⟨h1,h2⟩:=hp
 unfold aR
 have hf:fn3 (x0,((0:Int),(x0,(((x0.length:Nat):Int),((0:Int),())))))=(x0,((x0.flatten.length:Int),())):=by simp[fn3]
 rw[if_pos (show pre3 _=true by
  simp only[pre3,Zb,Za,Int.toNat_zero,List.drop_zero]
  exact⟨h2,trivial,trivial,by omega,by omega,by omega,by omega⟩),hf]
 simp only[letB]
 rw[if_pos (show dP.pre _=true by simp only[dP.pre,Zb,Za];omega),if_pos (show pre11 _=true by
  simp only[pre11,Zb,Za,Int.toNat_zero,List.drop_zero,dP,Zh]
  exact⟨h2,trivial,by omega,by omega,by omega⟩)]
 simp[fn11,dP,aY]
end aY
def aHL(s:Int×Int)(a:Int):Int×Int:=
 (Int.tmod (wrap .i64 (s.1+wrap .i64 a)) 65521,Int.tmod (wrap .i64 (s.2+Int.tmod (wrap .i64 (s.1+wrap .i64 a)) 65521)) 65521)
def xC(b:List Int):Int:=wrap .i64 (wrap .i64 ((b.foldl aHL (1,0)).2*65536)+(b.foldl aHL (1,0)).1)
abbrev nR:=xC
abbrev nX:=xC
namespace nR
abbrev S:=List Int×(Int×(Int×(Int×Unit)))
def pre3:S->Bool:=fun s=>decide (s.1.length<=maxLen)&&(decide (0<=s.2.2.2.1)&&decide (s.2.2.2.1.toNat<=s.1.length))
def fn3:S->Int×(Int×Unit):=fun s=>(((s.1.drop s.2.2.2.1.toNat).foldl aHL (s.2.1,s.2.2.1)).1,(((s.1.drop s.2.2.2.1.toNat).foldl aHL (s.2.1,s.2.2.1)).2,()))
def mu3:S->Nat:=fun s=>s.1.length-s.2.2.2.1.toNat
noncomputable def pK(x1:(List Int))(x2:Int)(x3:Int)(x4:Int):Option (((List Int)×(Int×eQ))⊕eQ):=
 if(decide (x4<((length x1:Nat):Int)))=true then
 if(decide ((0:Int)<=x4))=true then
 if(decide (x4<((length x1:Nat):Int)))=true then
 if(!(decide ((65521:Int)=(0:Int))))=true then
 if(!(decide ((65521:Int)=(0:Int))))=true then
 some (.inl (x1,((Int.tmod (wrap .i64 (x2+(wrap .i64 (List.getD x1 (Int.toNat x4) (0:Int))))) (65521:Int)),((Int.tmod (wrap .i64 (x3+(Int.tmod (wrap .i64 (x2+(wrap .i64 (List.getD x1 (Int.toNat x4) (0:Int))))) (65521:Int)))) (65521:Int)),((wrap .i64 (x4+(1:Int))),())))))
 else
 none
 else
 none
 else
 none
 else
 none
 else
 some (.inr (x2,(x3,())))
abbrev wf(x0:(List Int)):Prop:=fV [(.val wQ .f)] (x0,())
noncomputable def aR(x0:(List Int)):Option xS:=
 if(nR.pre3 (x0,((1:Int),nT)))=true then
 some ((),((wrap .i64 ((wrap .i64 ((nR.fn3 (x0,((1:Int),nT))).2.1*(65536:Int)))+(nR.fn3 (x0,((1:Int),nT))).1)),()))
 else
 none
theorem ok3(x1:List Int)(x2 x3 x4:Int)(hp:pre3 (x1,(x2,(x3,(x4,()))))=true):Rounds pre3 mu3 fn3 (x1,(x2,(x3,(x4,())))) (pK x1 x2 x3 x4):=by
 simp only[pre3,Zb,Za] at hp
 obtain⟨h1,h2,h3⟩:=hp
 have hM:=lJ
 unfold pK
 by_cases hlt:x4<(x1.length:Int)
 . have hn:x4.toNat<x1.length:=by omega
   have e1:=Zn hn
   rw[if_pos (by simp[hlt]),if_pos (by simp[h2]),if_pos (by simp[hlt]),if_pos (by decide),if_pos (by decide),eZ hn,iX (n:=x4+1) (by omega) (by omega)]
   simp only[Rounds]
   refine⟨?_,by simp only[mu3];omega,?_⟩
   . simp only[pre3,Zb,Za];omega
   . simp only[fn3,show(x4+1).toNat=x4.toNat+1 by omega,e1,List.foldl_cons,aHL]
 . rw[if_neg (by simp[hlt])]
   simp only[Rounds,fn3]
   rw[Zt (by omega)]
   rfl
theorem eq(x0:List Int)(hw:wf x0):aR x0=some ((),(nR x0,())):=by
 have h1:x0.length<=maxLen:=hw.1.1
 unfold aR
 rw[if_pos (show pre3 _=true by simp[pre3,h1])]
 rfl
end nR
namespace nX
abbrev S:=Int×(Int×(List Int×(Int×(Int×Unit))))
def pre3:S->Bool:=fun s=>decide (s.2.2.1.length<=maxLen)&&(decide (s.2.2.2.1=(s.2.2.1.length:Int))&&(decide (0<=s.2.2.2.2.1)&&decide (s.2.2.2.2.1.toNat<=s.2.2.1.length)))
def fn3:S->Int×(Int×Unit):=fun s=>(((s.2.2.1.drop s.2.2.2.2.1.toNat).foldl aHL (s.1,s.2.1)).1,(((s.2.2.1.drop s.2.2.2.2.1.toNat).foldl aHL (s.1,s.2.1)).2,()))
def mu3:S->Nat:=fun s=>s.2.2.1.length-s.2.2.2.2.1.toNat
noncomputable def pK(x1:Int)(x2:Int)(x3:(List Int))(x4:Int)(x5:Int):Option ((Int×(Int×((List Int)×eQ)))⊕eQ):=
 if(decide (x5<x4))=true then
 if(decide ((0:Int)<=x5))=true then
 if(decide (x5<((length x3:Nat):Int)))=true then
 if(!(decide ((65521:Int)=(0:Int))))=true then
 if(!(decide ((65521:Int)=(0:Int))))=true then
 some (.inl ((Int.tmod (wrap .i64 (x1+(wrap .i64 (List.getD x3 (Int.toNat x5) (0:Int))))) (65521:Int)),((Int.tmod (wrap .i64 (x2+(Int.tmod (wrap .i64 (x1+(wrap .i64 (List.getD x3 (Int.toNat x5) (0:Int))))) (65521:Int)))) (65521:Int)),(x3,(x4,((wrap .i64 (x5+(1:Int))),()))))))
 else
 none
 else
 none
 else
 none
 else
 none
 else
 some (.inr (x1,(x2,())))
abbrev wf(x0:(List Int)):Prop:=fV [(.val wQ .f)] (x0,())
noncomputable def aR(x0:(List Int)):Option xS:=
 if(nX.pre3 ((1:Int),((0:Int),(x0,(((length x0:Nat):Int),((0:Int),()))))))=true then
 some ((),((wrap .i64 ((wrap .i64 ((nX.fn3 ((1:Int),((0:Int),(x0,(((length x0:Nat):Int),((0:Int),())))))).2.1*(65536:Int)))+(nX.fn3 ((1:Int),((0:Int),(x0,(((length x0:Nat):Int),((0:Int),())))))).1)),()))
 else
 none
theorem ok3(x1 x2:Int)(x3:List Int)(x4 x5:Int)(hp:pre3 (x1,(x2,(x3,(x4,(x5,())))))=true):Rounds pre3 mu3 fn3 (x1,(x2,(x3,(x4,(x5,()))))) (pK x1 x2 x3 x4 x5):=by
 simp only[pre3,Zb,Za] at hp
 obtain⟨h1,rfl,h2,h3⟩:=hp
 have hM:=lJ
 unfold pK
 by_cases hlt:x5<(x3.length:Int)
 . have hn:x5.toNat<x3.length:=by omega
   have e1:=Zn hn
   rw[if_pos (by simp[hlt]),if_pos (by simp[h2]),if_pos (by simp[hlt]),if_pos (by decide),if_pos (by decide),eZ hn,iX (n:=x5+1) (by omega) (by omega)]
   simp only[Rounds]
   refine⟨?_,by simp only[mu3];omega,?_⟩
   . simp only[pre3,Zb,Za];exact⟨h1,trivial,by omega,by omega⟩
   . simp only[fn3,show(x5+1).toNat=x5.toNat+1 by omega,e1,List.foldl_cons,aHL]
 . rw[if_neg (by simp[hlt])]
   simp only[Rounds,fn3]
   rw[Zt (by omega)]
   rfl
theorem eq(x0:List Int)(hw:wf x0):aR x0=some ((),(nX x0,())):=by
 have h1:x0.length<=maxLen:=hw.1.1
 unfold aR
 rw[if_pos (show pre3 _=true by simp[pre3,h1])]
 rfl
end nX
def aHu(s:Int):List Int:=
 [wrap .u8 s,wrap .u8 (Int.fdiv s (2^min (Int.toNat (8:Int)) (IntKind.bits .i64))),wrap .u8 (Int.fdiv s (2^min (Int.toNat (16:Int)) (IntKind.bits .i64))),wrap .u8 (Int.fdiv s (2^min (Int.toNat (24:Int)) (IntKind.bits .i64)))]
def oQ(b:List Int):List Int:=aHu (xC b)
namespace oQ
abbrev wf(x0:(List Int)):Prop:=fV [(.val wQ .f)] (x0,())
noncomputable def aR(x0:(List Int)):Option (Unit×tH):=
 if(decide ((0:Int)<=(8:Int)))=true then
 if(decide ((0:Int)<=(16:Int)))=true then
 if(decide ((0:Int)<=(24:Int)))=true then
 some ((),(((wrap .u8 (xC x0))::((wrap .u8 (Int.fdiv (xC x0) (2^min (Int.toNat (8:Int)) (IntKind.bits .i64))))::((wrap .u8 (Int.fdiv (xC x0) (2^min (Int.toNat (16:Int)) (IntKind.bits .i64))))::((wrap .u8 (Int.fdiv (xC x0) (2^min (Int.toNat (24:Int)) (IntKind.bits .i64))))::([]:List Int))))),()))
 else
 none
 else
 none
 else
 none
theorem eq(x0:List Int)(_:wf x0):aR x0=some ((),(oQ x0,())):=by
 unfold aR
 rw[if_pos (by decide),if_pos (by decide),if_pos (by decide)]
 rfl
end oQ
def bR(b:List Int):Bool:=b.all fun x=>decide (0<=x)&&decide (x<=255)
theorem aCW{b:List Int}(h:bR b=true){i:Nat}(hi:i<b.length):0<=b[i]/\b[i]<=255:=by
 have:=Zu.1 h _ (List.getElem_mem hi)
 simpa using this
theorem gL{b:List Int}(h:∀(i:Nat) (x:Int),b[i]?=some x->inK .u8 x):bR b=true:=by
 refine Zu.2 fun x hx=>?_
 obtain⟨i,hi,rfl⟩:=List.getElem_of_mem hx
 have:=in8.1 (h i _ (Zm hi))
 simpa using this
def gn(e:Option (Option (Int×Nat))):Nat->Nat->List Int->Int->Option (Option (Int×Nat))
 |0,_,_,_=>none
 |_+1,_,[],_=>e
 |f+1,k,a::r,acc=>
  if a<128 then
   if 0<k/\a=0 then some none
   else if 2147483647<acc+a%128*128^k then some none
   else some (some (acc+a%128*128^k,k+1))
  else gn e f (k+1) r (acc+a%128*128^k)
abbrev GnR:=(Int×aDo)⊕Unit
def aEN(i:Int):Option (Option (Int×Nat))->GnR
 |none=>.inr ()
 |some none=>.inl (0,(0,(false,())))
 |some (some p)=>.inl (p.1,(i+p.2,(true,())))
def aCu(i:Int):Option (Option (Int×Nat))->Int×(Int×Bool)
 |some (some p)=>(p.1,(i+p.2,true))
 |_=>(0,(0,false))
def dN(b:List Int)(i:Int):Int×(Int×Bool):=if i<0 then(0,(0,false)) else aCu i (gn (some none) 5 0 (b.drop i.toNat) 0)
abbrev gD:=dN
def bW(b:List Int)(i:Int):Int×(Int×Bool):=if 9223372036854775802<i then(0,(0,false)) else dN b i
theorem aJM(i:Int):(f k:Nat)->(l:List Int)->(acc:Int)->aCu i (gn none f k l acc)=aCu i (gn (some none) f k l acc)
 |0,_,_,_=>rfl
 |_+1,_,[],_=>rfl
 |f+1,k,a::r,acc=>by
  simp only[gn]
  split
  . rfl
  . exact aJM i f (k+1) r _
theorem aFT{i:Int}{r:Option (Option (Int×Nat))}{α:Type}(g:Int×aDo->α):
 (match aEN i r with|.inl y=>g y|.inr _=>g (0,(0,(false,()))))=g ((aCu i r).1,((aCu i r).2.1,((aCu i r).2.2,()))):=by
 match r with
 |none=>rfl
 |some none=>rfl
 |some (some p)=>rfl
theorem aM2{k:Nat}(hk:k<=4):(128:Int)^k<=268435456/\0<(128:Int)^k:=by
 have:k=0\/k=1\/k=2\/k=3\/k=4:=by omega
 rcases this with rfl|rfl|rfl|rfl|rfl<;>decide
theorem aLi{acc d:Int}{k:Nat}(h1:acc<128^k)(h3:d<128):acc+d*128^k<128^(k+1):=by
 have hpos:(0:Int)<128^k:=Int.pow_pos (by decide)
 have:(d+1)*128^k<=128*128^k:=Int.mul_le_mul_of_nonneg_right (by omega) (by omega)
 rw[Int.add_mul] at this
 rw[Int.pow_succ];omega
theorem aOr{k:Int}(h0:0<=k)(h1:k<=4):min (Int.toNat (wrap .i64 (7*k))) (IntKind.bits .i64)=7*k.toNat:=by
 rw[iX (by omega) (by omega)]
 show min _ 64=_
 omega
namespace gD
abbrev S:=List Int×(Int×(Int×(Int×Unit)))
def pre3:S->Bool:=fun s=>bR s.1&&(decide (s.1.length<=maxLen)&&(decide (0<=s.2.2.1)&&(decide (0<=s.2.2.2.1)&&(decide (s.2.2.2.1<=5)&&(decide (s.2.2.1<128^s.2.2.2.1.toNat)&&(decide (s.2.2.2.1=0)||decide (0<=s.2.1/\s.2.1+s.2.2.2.1<=(s.1.length:Int))))))))
def fn3:S->GnR:=fun s=>if 5<=s.2.2.2.1 then .inr () else if s.2.1<0 then .inl (0,(0,(false,()))) else aEN s.2.1 (gn (some none) (5-s.2.2.2.1.toNat) s.2.2.2.1.toNat (s.1.drop (s.2.1.toNat+s.2.2.2.1.toNat)) s.2.2.1)
def mu3:S->Nat:=fun s=>5-s.2.2.2.1.toNat
noncomputable def pK(x1:(List Int))(x2:Int)(x3:Int)(x4:Int):Option (((List Int)×(Int×eQ))⊕((Int×aDo)⊕Unit)):=
 if(decide (x4<(5:Int)))=true then
 if(decide (x2<(0:Int)))=true then
 some (.inr (.inl ((0:Int),tG)))
 else
 if(decide ((wrap .i64 (((length x1:Nat):Int)-x4))<=x2))=true then
 some (.inr (.inl ((0:Int),tG)))
 else
 if(decide ((0:Int)<=(wrap .i64 (x2+x4))))=true then
 if(decide ((wrap .i64 (x2+x4))<((length x1:Nat):Int)))=true then
 if(!(decide ((128:Int)=(0:Int))))=true then
 if(decide ((0:Int)<=(wrap .i64 ((7:Int)*x4))))=true then
 if(decide ((wrap .i64 (List.getD x1 (Int.toNat (wrap .i64 (x2+x4))) (0:Int)))<(128:Int)))=true then
 if(decide ((0:Int)<x4))=true then
 if(decide ((wrap .i64 (List.getD x1 (Int.toNat (wrap .i64 (x2+x4))) (0:Int)))=(0:Int)))=true then
 some (.inr (.inl ((0:Int),tG)))
 else
 if(decide ((2147483647:Int)<(intBits .or .i64 x3 (wrap .i64 ((Int.tmod (wrap .i64 (List.getD x1 (Int.toNat (wrap .i64 (x2+x4))) (0:Int))) (128:Int))*2^min (Int.toNat (wrap .i64 ((7:Int)*x4))) (IntKind.bits .i64))))))=true then
 some (.inr (.inl ((0:Int),tG)))
 else
 some (.inr (.inl ((intBits .or .i64 x3 (wrap .i64 ((Int.tmod (wrap .i64 (List.getD x1 (Int.toNat (wrap .i64 (x2+x4))) (0:Int))) (128:Int))*2^min (Int.toNat (wrap .i64 ((7:Int)*x4))) (IntKind.bits .i64)))),((wrap .i64 ((wrap .i64 (x2+x4))+(1:Int))),(true,())))))
 else
 if(decide ((2147483647:Int)<(intBits .or .i64 x3 (wrap .i64 ((Int.tmod (wrap .i64 (List.getD x1 (Int.toNat (wrap .i64 (x2+x4))) (0:Int))) (128:Int))*2^min (Int.toNat (wrap .i64 ((7:Int)*x4))) (IntKind.bits .i64))))))=true then
 some (.inr (.inl ((0:Int),tG)))
 else
 some (.inr (.inl ((intBits .or .i64 x3 (wrap .i64 ((Int.tmod (wrap .i64 (List.getD x1 (Int.toNat (wrap .i64 (x2+x4))) (0:Int))) (128:Int))*2^min (Int.toNat (wrap .i64 ((7:Int)*x4))) (IntKind.bits .i64)))),((wrap .i64 ((wrap .i64 (x2+x4))+(1:Int))),(true,())))))
 else
 some (.inl (x1,(x2,((intBits .or .i64 x3 (wrap .i64 ((Int.tmod (wrap .i64 (List.getD x1 (Int.toNat (wrap .i64 (x2+x4))) (0:Int))) (128:Int))*2^min (Int.toNat (wrap .i64 ((7:Int)*x4))) (IntKind.bits .i64)))),((wrap .i64 (x4+(1:Int))),())))))
 else
 none
 else
 none
 else
 none
 else
 none
 else
 some (.inr (.inr ()))
abbrev wf(x0:(List Int))(x1:Int):Prop:=fV [(.val wQ .f),(.val (.int .i64) .f)] (x0,(x1,()))
noncomputable def aR(x0:(List Int))(x1:Int):Option (Unit×(Int×aDo)):=
 if(gD.pre3 (x0,(x1,nT)))=true then
  match(gD.fn3 (x0,(x1,nT))) with
  |.inl y=>
   some ((),y)
  |.inr y=>
   some ((),((0:Int),tG))
 else
  none
theorem ok3(x1:List Int)(x2 x3 x4:Int)(hp:pre3 (x1,(x2,(x3,(x4,()))))=true):Rounds pre3 mu3 fn3 (x1,(x2,(x3,(x4,())))) (pK x1 x2 x3 x4):=by
 simp only[pre3,Zb,Bool.or_eq_true,Za] at hp
 obtain⟨hb,h1,h2,h3,h4,h5,h6⟩:=hp
 have hM:=lJ
 unfold pK
 by_cases hk:x4<5
 case neg=>
  rw[if_neg (by simp[hk])]
  simp only[Rounds,fn3]
  rw[if_pos (by omega)]
 rw[if_pos (by simp[hk])]
 by_cases hi:x2<0
 . rw[if_pos (by simp[hi])]
   simp only[Rounds,fn3]
   rw[if_neg (by omega),if_pos hi]
 rw[if_neg (by simp[hi]),iX (n:=(x1.length:Int)-x4) (by omega) (by omega)]
 have hfu:5-x4.toNat=(4-x4.toNat)+1:=by omega
 by_cases he:(x1.length:Int)-x4<=x2
 . rw[if_pos (by simp[he])]
   simp only[Rounds,fn3]
   rw[if_neg (by omega),if_neg hi,Zt (by omega),hfu]
   rfl
 rw[if_neg (by simp[he]),iX (n:=x2+x4) (by omega) (by omega)]
 have hn:x2.toNat+x4.toNat<x1.length:=by omega
 have hx:(x2+x4).toNat=x2.toNat+x4.toNat:=by omega
 obtain⟨ha0,ha1⟩:=aCW hb hn
 have e1:=Zn hn
 rw[hx,eZ hn]
 rw[if_pos (by simp only[Za];omega),if_pos (by simp only[Za];omega),if_pos (by decide),if_pos (by rw[iX (by omega) (by omega)];simp only[Za];omega)]
 generalize ha:x1[x2.toNat+x4.toNat]=a at *
 rw[iX (n:=a) (by omega) (by omega),Int.tmod_eq_emod_of_nonneg ha0,aOr h3 (by omega),aId h2 h5 (by omega) (by omega) (by omega)]
 have hf:fn3 (x1,(x2,(x3,(x4,()))))=aEN x2 (gn (some none) ((4-x4.toNat)+1) x4.toNat (a::x1.drop (x2.toNat+x4.toNat+1)) x3):=by
  simp only[fn3]
  rw[if_neg (by omega),if_neg hi,hfu,e1]
 simp only[gn] at hf
 have hpw:=aM2 (k:=x4.toNat) (by omega)
 by_cases hs:a<128
 . rw[if_pos hs] at hf
   rw[if_pos (by simp[hs])]
   by_cases hz:0<x4.toNat/\a=0
   . rw[if_pos hz] at hf
     rw[if_pos (by simp only[Za];omega),if_pos (by simp[hz.2])]
     exact hf.symm
   . rw[if_neg hz] at hf
     by_cases hg:2147483647<x3+a%128*128^x4.toNat
     . rw[if_pos hg] at hf
       by_cases h0:0<x4
       . rw[if_pos (by simp[h0]),if_neg (by simp only[Za];omega),if_pos (by simp[hg])]
         exact hf.symm
       . rw[if_neg (by simp[h0]),if_pos (by simp[hg])]
         exact hf.symm
     . rw[if_neg hg] at hf
       have hw:wrap .i64 (x2+x4+1)=x2+((x4.toNat+1:Nat):Int):=by rw[iX (by omega) (by omega)];push_cast;omega
       rw[hw]
       by_cases h0:0<x4
       . rw[if_pos (by simp[h0]),if_neg (by simp only[Za];omega),if_neg (by simp only[Za];exact hg)]
         exact hf.symm
       . rw[if_neg (by simp[h0]),if_neg (by simp only[Za];exact hg)]
         exact hf.symm
 . rw[if_neg hs] at hf
   rw[if_neg (by simp[hs]),iX (n:=x4+1) (by omega) (by omega)]
   have hd0:0<=a%128*128^x4.toNat:=Int.mul_nonneg (by omega) (by omega)
   have hal:=aLi (k:=x4.toNat) (acc:=x3) (d:=a%128) h5 (by omega)
   have hs1:(x4+1).toNat=x4.toNat+1:=by omega
   simp only[Rounds]
   refine⟨?_,by simp only[mu3];omega,?_⟩
   . simp only[pre3,Zb,Bool.or_eq_true,Za,hs1]
     exact⟨hb,h1,by omega,by omega,by omega,hal,.inr ⟨by omega,by omega⟩⟩
   . rw[hf]
     simp only[fn3,hs1]
     by_cases h5:(5:Int)<=x4+1
     . rw[if_pos h5,show 4-x4.toNat=0 by omega];rfl
     . rw[if_neg h5,if_neg hi,show 5-(x4.toNat+1)=4-x4.toNat by omega,show x2.toNat+(x4.toNat+1)=x2.toNat+x4.toNat+1 by omega]
theorem eq(x0:List Int)(x1:Int)(hw:wf x0 x1):aR x0 x1=some ((),((gD x0 x1).1,((gD x0 x1).2.1,((gD x0 x1).2.2,())))):=by
 have h1:x0.length<=maxLen:=hw.1.1
 have hb:bR x0=true:=gL hw.1.2
 unfold aR
 rw[if_pos (show pre3 _=true by simp[pre3,h1,hb])]
 have hf:fn3 (x0,(x1,nT))=if x1<0 then .inl (0,(0,(false,()))) else aEN x1 (gn (some none) 5 0 (x0.drop x1.toNat) 0):=rfl
 rw[hf]
 unfold gD dN
 by_cases h:x1<0
 . simp only[if_pos h]
 . simp only[if_neg h]
   exact aFT (fun y=>some ((),y))
end gD
namespace bW
abbrev S:=List Int×(Int×(Int×(Int×Unit)))
def pre5:S->Bool:=fun s=>bR s.1&&(decide (s.1.length<=maxLen)&&(decide (0<=s.2.2.1)&&(decide (0<=s.2.1)&&(decide (s.2.1<=9223372036854775807)&&(decide (s.2.1<=s.2.2.2.1)&&(decide (s.2.2.2.1-s.2.1<=5)&&(decide (s.2.2.1<128^(s.2.2.2.1-s.2.1).toNat)&&(decide (s.2.2.2.1=s.2.1)||decide (s.2.1<=9223372036854775802)))))))))
def fn5:S->GnR:=fun s=>if 9223372036854775802<s.2.1 then .inr () else aEN s.2.1 (gn none (5-(s.2.2.2.1-s.2.1).toNat) (s.2.2.2.1-s.2.1).toNat (s.1.drop s.2.2.2.1.toNat) s.2.2.1)
def mu5:S->Nat:=fun s=>5-(s.2.2.2.1-s.2.1).toNat
noncomputable def tS(x1:(List Int))(x2:Int)(x3:Int)(x4:Int):Option (((List Int)×(Int×eQ))⊕((Int×aDo)⊕Unit)):=
 if(decide (x4<((length x1:Nat):Int)))=true then
 if(decide (x4<(wrap .i64 (x2+(5:Int)))))=true then
 if(decide ((0:Int)<=x4))=true then
 if(decide (x4<((length x1:Nat):Int)))=true then
 if(decide ((0:Int)<=(wrap .i64 ((7:Int)*(wrap .i64 (x4-x2))))))=true then
 if(decide ((0:Int)<=x4))=true then
 if(decide (x4<((length x1:Nat):Int)))=true then
 if(decide ((List.getD x1 (Int.toNat x4) (0:Int))<(128:Int)))=true then
 if(decide ((2147483647:Int)<(intBits .or .i64 x3 (wrap .i64 ((wrap .i64 (intBits .and .u8 (List.getD x1 (Int.toNat x4) (0:Int)) (127:Int)))*2^min (Int.toNat (wrap .i64 ((7:Int)*(wrap .i64 (x4-x2))))) (IntKind.bits .i64))))))=true then
 some (.inr (.inl ((0:Int),tG)))
 else
 if(decide (x2<x4))=true then
 if(decide ((0:Int)<=x4))=true then
 if(decide (x4<((length x1:Nat):Int)))=true then
 if(decide ((List.getD x1 (Int.toNat x4) (0:Int))=(0:Int)))=true then
 some (.inr (.inl ((0:Int),tG)))
 else
 some (.inr (.inl ((intBits .or .i64 x3 (wrap .i64 ((wrap .i64 (intBits .and .u8 (List.getD x1 (Int.toNat x4) (0:Int)) (127:Int)))*2^min (Int.toNat (wrap .i64 ((7:Int)*(wrap .i64 (x4-x2))))) (IntKind.bits .i64)))),((wrap .i64 (x4+(1:Int))),(true,())))))
 else
 none
 else
 none
 else
 some (.inr (.inl ((intBits .or .i64 x3 (wrap .i64 ((wrap .i64 (intBits .and .u8 (List.getD x1 (Int.toNat x4) (0:Int)) (127:Int)))*2^min (Int.toNat (wrap .i64 ((7:Int)*(wrap .i64 (x4-x2))))) (IntKind.bits .i64)))),((wrap .i64 (x4+(1:Int))),(true,())))))
 else
 some (.inl (x1,(x2,((intBits .or .i64 x3 (wrap .i64 ((wrap .i64 (intBits .and .u8 (List.getD x1 (Int.toNat x4) (0:Int)) (127:Int)))*2^min (Int.toNat (wrap .i64 ((7:Int)*(wrap .i64 (x4-x2))))) (IntKind.bits .i64)))),((wrap .i64 (x4+(1:Int))),())))))
 else
 none
 else
 none
 else
 none
 else
 none
 else
 none
 else
 some (.inr (.inr ()))
 else
 some (.inr (.inr ()))
abbrev wf(x0:(List Int))(x1:Int):Prop:=fV [(.val wQ .f),(.val (.int .i64) .f)] (x0,(x1,()))
noncomputable def aR(x0:(List Int))(x1:Int):Option (Unit×(Int×aDo)):=
 if(decide (x1<(0:Int)))=true then
  some ((),((0:Int),tG))
 else
  if(bW.pre5 (x0,(x1,((0:Int),(x1,())))))=true then
   match(bW.fn5 (x0,(x1,((0:Int),(x1,()))))) with
   |.inl y=>
    some ((),y)
   |.inr y=>
    some ((),((0:Int),tG))
  else
   none
theorem ok5(x1:List Int)(x2 x3 x4:Int)(hp:pre5 (x1,(x2,(x3,(x4,()))))=true):Rounds pre5 mu5 fn5 (x1,(x2,(x3,(x4,())))) (tS x1 x2 x3 x4):=by
 simp only[pre5,Zb,Bool.or_eq_true,Za] at hp
 obtain⟨hb,h1,h2,hi0,hi1,h3,h4,h5,h6⟩:=hp
 have hM:=lJ
 unfold tS
 by_cases hbig:9223372036854775802<x2
 . have hf:fn5 (x1,(x2,(x3,(x4,()))))=.inr ():=if_pos hbig
   have hwr:¬x4<wrap .i64 (x2+5):=by
    simp[wrap,IntKind.signed,IntKind.bits];split<;>omega
   by_cases hl:x4<(x1.length:Int)
   . rw[if_pos (by simp[hl]),if_neg (by simp[hwr])];exact hf.symm
   . rw[if_neg (by simp[hl])];exact hf.symm
 have hf0:fn5 (x1,(x2,(x3,(x4,()))))=aEN x2 (gn none (5-(x4-x2).toNat) (x4-x2).toNat (x1.drop x4.toNat) x3):=if_neg hbig
 rw[iX (n:=x2+5) (by omega) (by omega)]
 by_cases hl:x4<(x1.length:Int)
 case neg=>
  rw[if_neg (by simp[hl])]
  rw[Zt (by omega)] at hf0
  show _=_
  rw[hf0]
  cases 5-(x4-x2).toNat<;>rfl
 rw[if_pos (by simp[hl])]
 by_cases hk:x4<x2+5
 case neg=>
  rw[if_neg (by simp only[Za];exact hk)]
  show _=_
  rw[hf0,show 5-(x4-x2).toNat=0 by omega];rfl
 have hn:x4.toNat<x1.length:=by omega
 obtain⟨ha0,ha1⟩:=aCW hb hn
 have e1:=Zn hn
 rw[eZ hn,iX (n:=x4-x2) (by omega) (by omega)]
 have h04:(0:Int)<=x4:=by omega
 rw[if_pos (by simp only[Za];exact hk),if_pos (by simp[h04]),if_pos (by simp[hl]),if_pos (by rw[iX (by omega) (by omega)];simp only[Za];omega),if_pos (by simp[h04]),if_pos (by simp[hl])]
 rw[show 5-(x4-x2).toNat=(4-(x4-x2).toNat)+1 by omega,e1] at hf0
 generalize ha:x1[x4.toNat]=a at *
 rw[aMT ha0 ha1,iX (n:=a%128) (by omega) (by omega),aOr (k:=x4-x2) (by omega) (by omega),aId h2 h5 (by omega) (by omega) (by omega)]
 simp only[gn] at hf0
 have hpw:=aM2 (k:=(x4-x2).toNat) (by omega)
 by_cases hs:a<128
 . rw[if_pos hs] at hf0
   rw[if_pos (by simp[hs])]
   by_cases hg:2147483647<x3+a%128*128^(x4-x2).toNat
   . rw[if_pos (by simp only[Za];exact hg)]
     simp only[if_pos hg] at hf0
     show _=_
     rw[hf0];split<;>rfl
   . rw[if_neg (by simp only[Za];exact hg)]
     have hw:wrap .i64 (x4+1)=x2+(((x4-x2).toNat+1:Nat):Int):=by rw[iX (by omega) (by omega)];push_cast;omega
     rw[hw]
     simp only[if_neg hg] at hf0
     by_cases h0:x2<x4
     . rw[if_pos (by simp[h0]),if_pos (by simp[h04]),if_pos (by simp[hl])]
       by_cases hz:a=0
       . rw[if_pos ⟨by omega,hz⟩] at hf0
         rw[if_pos (by simp[hz])];exact hf0.symm
       . rw[if_neg (by omega)] at hf0
         rw[if_neg (by simp[hz])];exact hf0.symm
     . rw[if_neg (by omega)] at hf0
       rw[if_neg (by simp[h0])];exact hf0.symm
 . rw[if_neg hs] at hf0
   rw[if_neg (by simp[hs]),iX (n:=x4+1) (by omega) (by omega)]
   have hd0:0<=a%128*128^(x4-x2).toNat:=Int.mul_nonneg (by omega) (by omega)
   have hal:=aLi (k:=(x4-x2).toNat) (acc:=x3) (d:=a%128) h5 (by omega)
   have hs1:(x4+1-x2).toNat=(x4-x2).toNat+1:=by omega
   simp only[Rounds]
   refine⟨?_,by simp only[mu5];omega,?_⟩
   . simp only[pre5,Zb,Bool.or_eq_true,Za,hs1]
     exact⟨hb,h1,by omega,hi0,hi1,by omega,by omega,hal,.inr (by omega)⟩
   . rw[hf0]
     simp only[fn5,hs1]
     rw[if_neg hbig,show 5-((x4-x2).toNat+1)=4-(x4-x2).toNat by omega,show(x4+1).toNat=x4.toNat+1 by omega]
theorem eq(x0:List Int)(x1:Int)(hw:wf x0 x1):aR x0 x1=some ((),((bW x0 x1).1,((bW x0 x1).2.1,((bW x0 x1).2.2,())))):=by
 have h1:x0.length<=maxLen:=hw.1.1
 have hb:bR x0=true:=gL hw.1.2
 have hi:-9223372036854775808<=x1/\x1<=9223372036854775807:=aPc.1 hw.2.1
 unfold aR bW dN
 by_cases h:x1<0
 . rw[if_pos (by simp[h]),if_neg (by omega),if_pos h]
 . rw[if_neg (by simp[h]),if_pos (show pre5 _=true by simp[pre5,h1,hb];omega)]
   by_cases hbig:9223372036854775802<x1
   . have hf:fn5 (x0,(x1,((0:Int),(x1,()))))=.inr ():=if_pos hbig
     rw[hf,if_pos hbig]
   . have hf:fn5 (x0,(x1,((0:Int),(x1,()))))=aEN x1 (gn none 5 0 (x0.drop x1.toNat) 0):=by
      simp only[fn5]
      rw[if_neg hbig,Int.sub_self];rfl
     rw[hf,if_neg hbig,if_neg h,<-aJM]
     exact aFT (fun y=>some ((),y))
end bW
def rM(c:Cmd):List Int:=
 if pA c=true then List.append (List.append (yE [wrap .i64 (c.1+1),c.2.1,c.2.2.1,c.2.2.2.1,c.2.2.2.2.1,c.2.2.2.2.2.1]) (rB c.2.2.2.2.2.2.1)) (rB c.2.2.2.2.2.2.2.1) else[]
abbrev lB:=rM
theorem aCZ{c:Cmd}(h:pA c=true):c.2.2.2.2.2.2.1.length<=30/\c.2.2.2.2.2.2.2.1.length<=30:=by
 unfold pA at h
 split at h
 . simp only[Zb,beq_iff_eq] at h
   obtain⟨_,_,_,_,_,_,h1,h2⟩:=h
   rw[h1,h2];simp
 . simp only[Zb,gK,Za] at h
   omega
theorem aCa(c:Cmd):(rM c).length<=100:=by
 unfold rM
 split
 . rename_i h
   have h1:=aCZ h
   have h2:=aEn [wrap .i64 (c.1+1),c.2.1,c.2.2.1,c.2.2.2.1,c.2.2.2.2.1,c.2.2.2.2.2.1]
   have h3:=uK c.2.2.2.2.2.2.1
   have h4:=uK c.2.2.2.2.2.2.2.1
   simp only[List.append_eq,Zf,Zg,Zh] at *
   omega
 . simp
namespace lB
abbrev wf(x0:Cmd):Prop:=fV [(.val aKK .f)] (x0,())
noncomputable def aR(x0:Cmd):Option (Unit×tH):=
 letB (pA x0) fun v1=>
 if(!v1)=true then
 some ((),(([]:List Int),()))
 else
 if(gB.pre ((wrap .i64 (x0.1+(1:Int)))::(x0.2.1::(x0.2.2.1::(x0.2.2.2.1::(x0.2.2.2.2.1::(x0.2.2.2.2.2.1::([]:List Int))))))))=true then
 if(eX.pre x0.2.2.2.2.2.2.1)=true then
 if(eX.pre x0.2.2.2.2.2.2.2.1)=true then
 letB (yE ((wrap .i64 (x0.1+(1:Int)))::(x0.2.1::(x0.2.2.1::(x0.2.2.2.1::(x0.2.2.2.2.1::(x0.2.2.2.2.2.1::([]:List Int)))))))) fun v2=>
 letB (rB x0.2.2.2.2.2.2.1) fun v3=>
 letB (rB x0.2.2.2.2.2.2.2.1) fun v4=>
 if(aY.pre (v2::(v3::(v4::([]:List (List Int))))))=true then
 letB (aY (v2::(v3::(v4::([]:List (List Int)))))) fun v5=>
 some ((),(v5,()))
 else
 none
 else
 none
 else
 none
 else
 none
theorem eq(x0:Cmd)(_:wf x0):aR x0=some ((),(lB x0,())):=by
 unfold aR
 simp only[letB]
 by_cases h:pA x0=true
 case neg=>
  rw[if_pos (by simp[h])]
  unfold lB rM
  rw[if_neg h]
 have h1:=aCZ h
 have h2:=aEn [wrap .i64 (x0.1+1),x0.2.1,x0.2.2.1,x0.2.2.2.1,x0.2.2.2.2.1,x0.2.2.2.2.2.1]
 have h3:=uK x0.2.2.2.2.2.2.1
 have h4:=uK x0.2.2.2.2.2.2.2.1
 simp only[Zg,Zh] at h2
 rw[if_neg (by simp[h]),if_pos (show gB.pre _=true by simp[gB.pre,aC2,dJ]),if_pos (show eX.pre _=true by simp[eX.pre,aEq];omega),
  if_pos (show eX.pre _=true by simp[eX.pre,aEq];omega),if_pos (show aY.pre _=true by simp[aY.pre,dJ];omega)]
 unfold lB rM
 rw[if_pos h]
 simp only[aY,List.flatten_cons,List.flatten_nil,List.append_nil,List.append_eq,Zk]
end lB
def aKT(e:aL):List Int:=pD e.1++rM e.2.1
def aDt(xs:List aL):List Int:=xs.flatMap aKT
theorem aHP:(xs:List aL)->(aDt xs).length<=105*xs.length
 |[]=>by simp[aDt]
 |a::r=>by
  have:=nF a.1
  have:=aCa a.2.1
  have:=aHP r
  simp only[aDt,aKT,List.flatMap_cons,Zf,Zg] at *
  omega
def aBl(r:eF):List Int:=pD r.1++pD r.2.1++pD (wrap .i64 (r.2.2.1+1))++pD r.2.2.2.1++pD (r.2.2.2.2.1.length:Int)
theorem aG0(r:eF):(aBl r).length<=25:=by
 have h1:=nF r.1
 have h2:=nF r.2.1
 have h3:=nF (wrap .i64 (r.2.2.1+1))
 have h4:=nF r.2.2.2.1
 have h5:=nF (r.2.2.2.2.1.length:Int)
 simp only[aBl,Zf];omega
def mF(r:eF):List Int:=aBl r++aDt r.2.2.2.2.1++rB r.2.2.2.2.2.1
def sE(r:eF):List Int:=if jG r=true then pD (mF r).length++mF r++aHu (xC (mF r)) else[]
abbrev iH:=sE
theorem wP{r:eF}(h:jG r=true):r.2.2.2.2.1.length<=40/\r.2.2.2.2.2.1.length<=30000:=by
 simp only[jG,gT,Zb,Za] at h
 omega
theorem aLC{r:eF}(h:r.2.2.2.2.1.length<=40/\r.2.2.2.2.2.1.length<=30000):(mF r).length<=40000:=by
 have hh:=aG0 r
 have he:=aHP r.2.2.2.2.1
 have ht:=uK r.2.2.2.2.2.1
 simp only[mF,Zf];omega
namespace iH
abbrev S:=List aL×(Int×(Int×(eF×(List Int×Unit))))
def pre5:S->Bool:=fun s=>decide (s.1.length<=40)&&(decide (s.2.1=(s.1.length:Int))&&(decide (0<=s.2.2.1)&&(decide (s.2.2.1.toNat<=s.1.length)&&decide (s.2.2.2.2.1.length<=25+105*s.2.2.1.toNat))))
def fn5:S->eF×(List Int×Unit):=fun s=>(s.2.2.2.1,(s.2.2.2.2.1++aDt (s.1.drop s.2.2.1.toNat),()))
def mu5:S->Nat:=fun s=>s.1.length-s.2.2.1.toNat
noncomputable def tS(x1:(List aL))(x2:Int)(x3:Int)(x4:eF)(x5:(List Int)):Option (((List aL)×(Int×(Int×(eF×tH))))⊕(eF×tH)):=
 if(decide (x3<x2))=true then
 if(decide ((0:Int)<=x3))=true then
 if(decide (x3<((length x1:Nat):Int)))=true then
 if(gB.pre ((List.getD x1 (Int.toNat x3) wX).1::([]:List Int)))=true then
 letB (yE ((List.getD x1 (Int.toNat x3) wX).1::([]:List Int))) fun v1=>
 letB (rM (List.getD x1 (Int.toNat x3) wX).2.1) fun v2=>
 if(aY.pre (x5::(v1::(v2::([]:List (List Int))))))=true then
 letB (aY (x5::(v1::(v2::([]:List (List Int)))))) fun v3=>
 some (.inl (x1,(x2,((wrap .i64 (x3+(1:Int))),(x4,(v3,()))))))
 else
 none
 else
 none
 else
 none
 else
 none
 else
 some (.inr (x4,(x5,())))
abbrev wf(x0:eF):Prop:=fV [(.val aIc .f)] (x0,())
noncomputable def aR(x0:eF):Option (Unit×tH):=
 letB (jG x0) fun v1=>
 if(!v1)=true then
 some ((),(([]:List Int),()))
 else
 if(gB.pre (x0.1::(x0.2.1::((wrap .i64 (x0.2.2.1+(1:Int)))::(x0.2.2.2.1::(((length x0.2.2.2.2.1:Nat):Int)::([]:List Int)))))))=true then
 letB (yE (x0.1::(x0.2.1::((wrap .i64 (x0.2.2.1+(1:Int)))::(x0.2.2.2.1::(((length x0.2.2.2.2.1:Nat):Int)::([]:List Int))))))) fun v2=>
 if(iH.pre5 (x0.2.2.2.2.1,(((length x0.2.2.2.2.1:Nat):Int),((0:Int),(x0,(v2,()))))))=true then
 letB (iH.fn5 (x0.2.2.2.2.1,(((length x0.2.2.2.2.1:Nat):Int),((0:Int),(x0,(v2,())))))) fun v3=>
 if(eX.pre v3.1.2.2.2.2.2.1)=true then
 letB (rB v3.1.2.2.2.2.2.1) fun v4=>
 if(decide (length v3.2.1+length v4<=lV))=true then
 if(gB.pre (((length (List.append v3.2.1 v4):Nat):Int)::([]:List Int)))=true then
 if(decide ((0:Int)<=(8:Int)))=true then
 if(decide ((0:Int)<=(16:Int)))=true then
 if(decide ((0:Int)<=(24:Int)))=true then
 letB (yE (((length (List.append v3.2.1 v4):Nat):Int)::([]:List Int))) fun v5=>
 letB (xC (List.append v3.2.1 v4)) fun v6=>
 if(aY.pre (v5::((List.append v3.2.1 v4)::(((wrap .u8 v6)::((wrap .u8 (Int.fdiv v6 (2^min (Int.toNat (8:Int)) (IntKind.bits .i64))))::((wrap .u8 (Int.fdiv v6 (2^min (Int.toNat (16:Int)) (IntKind.bits .i64))))::((wrap .u8 (Int.fdiv v6 (2^min (Int.toNat (24:Int)) (IntKind.bits .i64))))::([]:List Int)))))::([]:List (List Int))))))=true then
 letB (aY (v5::((List.append v3.2.1 v4)::(((wrap .u8 v6)::((wrap .u8 (Int.fdiv v6 (2^min (Int.toNat (8:Int)) (IntKind.bits .i64))))::((wrap .u8 (Int.fdiv v6 (2^min (Int.toNat (16:Int)) (IntKind.bits .i64))))::((wrap .u8 (Int.fdiv v6 (2^min (Int.toNat (24:Int)) (IntKind.bits .i64))))::([]:List Int)))))::([]:List (List Int)))))) fun v7=>
 some ((),(v7,()))
 else
 none
 else
 none
 else
 none
 else
 none
 else
 none
 else
 none
 else
 none
 else
 none
 else
 none
theorem ok5(x1:List aL)(x2 x3:Int)(x4:eF)(x5:List Int)(hp:pre5 (x1,(x2,(x3,(x4,(x5,())))))=true):Rounds pre5 mu5 fn5 (x1,(x2,(x3,(x4,(x5,()))))) (tS x1 x2 x3 x4 x5):=by
 simp only[pre5,Zb,Za] at hp
 obtain⟨h1,rfl,h2,h3,h4⟩:=hp
 unfold tS
 by_cases hlt:x3<(x1.length:Int)
 . have hn:x3.toNat<x1.length:=by omega
   have e1:=Zn hn
   have h5:=nF (x1[x3.toNat]).1
   have h6:=aCa (x1[x3.toNat]).2.1
   simp only[letB]
   rw[if_pos (by simp[hlt]),if_pos (by simp[h2]),if_pos (by simp[hlt]),eZ hn,if_pos (show gB.pre _=true by simp[gB.pre,aC2,dJ]),
    if_pos (show aY.pre _=true by simp[aY.pre,dJ,yE];omega),iX (n:=x3+1) (by omega) (by omega)]
   simp only[Rounds]
   have hc:aY [x5,yE [(x1[x3.toNat]).1],rM (x1[x3.toNat]).2.1]=x5++aKT x1[x3.toNat]:=by simp[aY,yE,aKT]
   rw[hc]
   refine⟨?_,by simp only[mu5];omega,?_⟩
   . simp only[pre5,Zb,Za,Zf,aKT];exact⟨h1,trivial,by omega,by omega,by omega⟩
   . simp only[fn5,show(x3+1).toNat=x3.toNat+1 by omega,e1,aDt,List.flatMap_cons,Zk]
 . rw[if_neg (by simp[hlt])]
   simp only[Rounds,fn5]
   rw[Zt (by omega)]
   simp[aDt]
theorem eq(x0:eF)(_:wf x0):aR x0=some ((),(iH x0,())):=by
 unfold aR
 simp only[letB]
 by_cases h:jG x0=true
 case neg=>
  rw[if_pos (by simp[h])]
  unfold iH sE
  rw[if_neg h]
 have hl:=wP h
 have hb:=aLC hl
 have hp:=nF ((mF x0).length:Int)
 have hh:=aG0 x0
 have hn:yE [x0.1,x0.2.1,wrap .i64 (x0.2.2.1+1),x0.2.2.2.1,(x0.2.2.2.2.1.length:Int)]=aBl x0:=by simp[yE,aBl]
 have hf:fn5 (x0.2.2.2.2.1,((x0.2.2.2.2.1.length:Int),((0:Int),(x0,(aBl x0,())))))=(x0,(aBl x0++aDt x0.2.2.2.2.1,())):=rfl
 have hbd:List.append (aBl x0++aDt x0.2.2.2.2.1) (rB x0.2.2.2.2.2.1)=mF x0:=rfl
 have he:(aBl x0++aDt x0.2.2.2.2.1).length+(rB x0.2.2.2.2.2.1).length<=40000:=by
  simp only[mF,Zf] at hb;simp only[Zf];omega
 rw[if_neg (by simp[h]),if_pos (show gB.pre _=true by simp[gB.pre,aC2,dJ]),hn,
  if_pos (show pre5 _=true by simp only[pre5,Zb,Za];exact⟨hl.1,trivial,by omega,by omega,by omega⟩),hf]
 simp only[hbd]
 rw[if_pos (show eX.pre _=true by simp[eX.pre,aEq];omega),if_pos (by simp only[Za,lV];omega),if_pos (show gB.pre _=true by simp[gB.pre,aC2,dJ]),
  if_pos (by decide),if_pos (by decide),if_pos (by decide),if_pos (show aY.pre _=true by simp[aY.pre,dJ,yE];omega)]
 unfold iH sE
 rw[if_pos h]
 simp[aY,yE,aHu]
end iH
theorem aMt{n:Nat}(h:n<=127):aGF n=[(n:Int)]:=by
 rw[aGF,aE8,if_pos h,aFs,if_pos h];rfl
theorem aMh{n:Nat}(h:¬n<=127):aGF n=((n%128+128:Nat):Int)::aGF (n/128):=by
 rw[aGF,aE8,if_neg h,aFs,if_neg h];rfl
theorem aCb{a:Int}{r:List Int}(h:bR (a::r)=true):0<=a/\a<=255/\bR r=true:=by
 simp only[bR,List.all_cons,Zb,Za] at h
 exact⟨h.1.1,h.1.2,h.2⟩
theorem aCf{b:List Int}(h:bR b=true)(n:Nat):bR (b.drop n)=true:=
 Zu.2 fun _ hx=>Zu.1 h _ (List.mem_of_mem_drop hx)
theorem aGv{b:List Int}(h:bR b=true)(n:Nat):bR (b.take n)=true:=
 Zu.2 fun _ hx=>Zu.1 h _ (List.mem_of_mem_take hx)
theorem zA{b:List Int}(h:bR b=true)(n m:Nat):bR (bF n m b)=true:=aGv (aCf h _) _
theorem aMd:(f k:Nat)->(l:List Int)->(acc n:Int)->(c:Nat)->bR l=true->gn (some none) f k l acc=some (some (n,c))->
 ∃m:Nat,n=acc+m*128^k/\k<c/\c<=k+l.length/\l.take (c-k)=aGF m/\(0<k->0<m)/\n<=2147483647
 |0,_,_,_,_,_,_,h=>by cases h
 |_+1,_,[],_,_,_,_,h=>by cases h
 |f+1,k,a::r,acc,n,c,hb,h=>by
  obtain⟨h0,h1,hr⟩:=aCb hb
  simp only[gn] at h
  by_cases hs:a<128
  . rw[if_pos hs] at h
    by_cases hz:0<k/\a=0
    . rw[if_pos hz] at h;cases h
    rw[if_neg hz] at h
    by_cases hg:2147483647<acc+a%128*128^k
    . rw[if_pos hg] at h;cases h
    rw[if_neg hg] at h
    cases h
    have ha:a%128=a:=by omega
    have hat:((a.toNat:Nat):Int)=a:=by omega
    refine⟨a.toNat,by rw[hat,ha],by omega,by simp,?_,by omega,by omega⟩
    rw[aMt (by omega),show k+1-k=1 by omega,hat];rfl
  . rw[if_neg hs] at h
    obtain⟨m,e1,e2,e3,e4,e5,e6⟩:=aMd f (k+1) r _ n c hr h
    have hm:=e5 (by omega)
    refine⟨(a%128).toNat+128*m,?_,by omega,by rw[Zg];omega,?_,by omega,e6⟩
    . have:(((a%128).toNat+128*m:Nat):Int)=a%128+m*128:=by omega
      rw[e1,this,Int.add_mul,Int.pow_succ,Int.mul_assoc,Int.mul_comm (128^k) 128,Int.add_assoc]
    . rw[aMh (by omega),show c-k=(c-(k+1))+1 by omega,List.take_succ_cons,e4,show((a%128).toNat+128*m)/128=m by omega]
      congr 1
      omega
theorem nC{b:List Int}{i:Int}(hb:bR b=true)(h:(dN b i).2.2=true):
 0<=i/\0<=(dN b i).1/\(dN b i).1<=2147483647/\i<(dN b i).2.1/\(dN b i).2.1<=(b.length:Int)/\bF i.toNat (dN b i).2.1.toNat b=pD (dN b i).1:=by
 unfold dN at *
 by_cases hi:i<0
 . rw[if_pos hi] at h;cases h
 rw[if_neg hi] at *
 generalize hg:gn (some none) 5 0 (b.drop i.toNat) 0=r at *
 match r with
 |none=>cases h
 |some none=>cases h
 |some (some (n,c))=>
  obtain⟨m,e1,e2,e3,e4,_,e6⟩:=aMd 5 0 _ 0 n c (aCf hb _) hg
  simp only[aCu]
  have e1':n=(m:Int):=by rw[e1];simp
  have hl:c<=b.length-i.toNat:=by simpa using e3
  refine⟨by omega,by omega,e6,by omega,by omega,?_⟩
  rw[bF,show(i+(c:Int)).toNat-i.toNat=c-0 by omega,e4,pD,if_pos (by omega),show n.toNat=m by omega]
theorem aG8{b:List Int}{i:Int}(hb:bR b=true):0<=(dN b i).1/\(dN b i).1<=2147483647:=by
 by_cases h:(dN b i).2.2=true
 . have:=nC hb h
   omega
 . unfold dN at *
   split
   . decide
   . rename_i hi
     rw[if_neg hi] at h
     generalize gn (some none) 5 0 (b.drop i.toNat) 0=r at *
     match r with
     |none=>simp[aCu]
     |some none=>simp[aCu]
     |some (some (n,c))=>exact absurd rfl h
theorem aEl{b:List Int}{i:Int}(hb:bR b=true):0<=(bW b i).1/\(bW b i).1<=2147483647:=by
 unfold bW
 split
 . decide
 . exact aG8 hb
theorem aAc{b:List Int}{i:Int}(h:(bW b i).2.2=true):bW b i=dN b i:=by
 unfold bW at *
 split
 . rename_i hi;rw[if_pos hi] at h;cases h
 . rfl
theorem wE{b:List Int}{i:Int}(hb:b.length<=9223372036854775802):bW b i=dN b i:=by
 unfold bW
 split
 . unfold dN
   rw[if_neg (by omega),Zt (by omega)];rfl
 . rfl
def aDs(b:List Int)(v:Int×(Int×Bool)):List UInt8×(Int×Bool):=
 if v.2.2=true then
  if(b.length:Int)-v.2.1<v.1 then([],(0,false))
  else(kZ (bF v.2.1.toNat (v.2.1+v.1).toNat b),(v.2.1+v.1,true))
 else([],(0,false))
def iD(b:List Int)(i:Int):List UInt8×(Int×Bool):=aDs b (dN b i)
def iG(b:List Int)(i:Int):List UInt8×(Int×Bool):=aDs b (bW b i)
namespace iD
abbrev wf(x0:(List Int))(x1:Int):Prop:=fV [(.val wQ .f),(.val (.int .i64) .f)] (x0,(x1,()))
noncomputable def aR(x0:(List Int))(x1:Int):Option (Unit×((List UInt8)×aDo)):=
 letB (dN x0 x1) fun v1=>
 if(!v1.2.2)=true then
 some ((),(([]:List UInt8),tG))
 else
 if(decide ((wrap .i64 (((length x0:Nat):Int)-v1.2.1))<v1.1))=true then
 some ((),(([]:List UInt8),tG))
 else
 if(decide ((0:Int)<=v1.2.1))=true then
 if(decide (v1.2.1<=(wrap .i64 (v1.2.1+v1.1))))=true then
 if(decide ((wrap .i64 (v1.2.1+v1.1))<=((length x0:Nat):Int)))=true then
 some ((),((kZ (bF (Int.toNat v1.2.1) (Int.toNat (wrap .i64 (v1.2.1+v1.1))) x0)),((wrap .i64 (v1.2.1+v1.1)),(true,()))))
 else
 none
 else
 none
 else
 none
theorem eq(x0:List Int)(x1:Int)(hw:wf x0 x1):aR x0 x1=some ((),((iD x0 x1).1,((iD x0 x1).2.1,((iD x0 x1).2.2,())))):=by
 have h1:x0.length<=maxLen:=hw.1.1
 have hM:=lJ
 have hb:bR x0=true:=gL hw.1.2
 unfold aR iD aDs
 simp only[letB]
 by_cases h:(dN x0 x1).2.2=true
 case neg=>rw[if_pos (by simp[h]),if_neg h]
 obtain⟨g0,g1,g2,g3,g4,_⟩:=nC hb h
 rw[if_neg (by simp[h]),if_pos h,iX (n:=(x0.length:Int)-_) (by omega) (by omega)]
 by_cases hl:(x0.length:Int)-(dN x0 x1).2.1<(dN x0 x1).1
 . rw[if_pos (by simp[hl]),if_pos hl]
 . rw[if_neg (by simp only[Za];exact hl),if_neg hl,iX (n:=(dN x0 x1).2.1+_) (by omega) (by omega),if_pos (by simp only[Za];omega),if_pos (by simp only[Za];omega),if_pos (by simp only[Za];omega)]
end iD
namespace iG
abbrev wf(x0:(List Int))(x1:Int):Prop:=fV [(.val wQ .f),(.val (.int .i64) .f)] (x0,(x1,()))
noncomputable def aR(x0:(List Int))(x1:Int):Option (Unit×((List UInt8)×aDo)):=
 letB (bW x0 x1) fun v1=>
 if(!v1.2.2)=true then
 some ((),(([]:List UInt8),tG))
 else
 if(decide ((wrap .i64 (((length x0:Nat):Int)-v1.2.1))<v1.1))=true then
 some ((),(([]:List UInt8),tG))
 else
 if(decide ((0:Int)<=v1.2.1))=true then
 if(decide (v1.2.1<=(wrap .i64 (v1.2.1+v1.1))))=true then
 if(decide ((wrap .i64 (v1.2.1+v1.1))<=((length x0:Nat):Int)))=true then
 some ((),((kZ (bF (Int.toNat v1.2.1) (Int.toNat (wrap .i64 (v1.2.1+v1.1))) x0)),((wrap .i64 (v1.2.1+v1.1)),(true,()))))
 else
 none
 else
 none
 else
 none
theorem eq(x0:List Int)(x1:Int)(hw:wf x0 x1):aR x0 x1=some ((),((iG x0 x1).1,((iG x0 x1).2.1,((iG x0 x1).2.2,())))):=by
 have h1:x0.length<=maxLen:=hw.1.1
 have hM:=lJ
 have hb:bR x0=true:=gL hw.1.2
 unfold aR iG aDs
 simp only[letB]
 by_cases h:(bW x0 x1).2.2=true
 case neg=>rw[if_pos (by simp[h]),if_neg h]
 have hg:=aAc h
 rw[hg] at h ⊢
 obtain⟨g0,g1,g2,g3,g4,_⟩:=nC hb h
 rw[if_neg (by simp[h]),if_pos h,iX (n:=(x0.length:Int)-_) (by omega) (by omega)]
 by_cases hl:(x0.length:Int)-(dN x0 x1).2.1<(dN x0 x1).1
 . rw[if_pos (by simp[hl]),if_pos hl]
 . rw[if_neg (by simp only[Za];exact hl),if_neg hl,iX (n:=(dN x0 x1).2.1+_) (by omega) (by omega),if_pos (by simp only[Za];omega),if_pos (by simp only[Za];omega),if_pos (by simp only[Za];omega)]
end iG
abbrev R:=List Int×aDo
abbrev GN:=List Int->Int->Int×(Int×Bool)
def aDQ(g:GN)(good:Bool)(s:R):R×Int:=
 if s.2.2.1=good/\(g s.1 s.2.1).2.2=true then((s.1,((g s.1 s.2.1).2.1,(good,()))),(g s.1 s.2.1).1) else((s.1,(s.2.1,(!good,()))),0)
def aE1(g:GN)(good:Bool)(s:R):R×List UInt8:=
 if s.2.2.1=good/\(aDs s.1 (g s.1 s.2.1)).2.2=true then((s.1,((aDs s.1 (g s.1 s.2.1)).2.1,(good,()))),(aDs s.1 (g s.1 s.2.1)).1) else((s.1,(s.2.1,(!good,()))),[])
def aFm(num:R->R×Int)(txt:R->R×List UInt8)(s:R):R×Cmd:=
 letB (num s) fun v1=>letB (num v1.1) fun v2=>letB (num v2.1) fun v3=>letB (num v3.1) fun v4=>letB (num v4.1) fun v5=>letB (num v5.1) fun v6=>letB (txt v6.1) fun v7=>letB (txt v7.1) fun v8=>
 (v8.1,(wrap .i64 (v1.2-1),(v2.2,(v3.2,(v4.2,(v5.2,(v6.2,(v7.2,(v8.2,())))))))))
def aA(s:R):R×Int:=aDQ dN true s
def aP(s:R):R×List UInt8:=aE1 dN true s
def bL(s:R):R×Cmd:=aFm aA aP s
def aC(s:R):R×Int:=aDQ bW false s
def aV(s:R):R×List UInt8:=aE1 bW false s
def eV(s:R):R×Cmd:=
 letB (aFm aC aV s) fun p=>if p.1.2.2.1=true then((p.1.1,(p.1.2.1,(true,()))),p.2) else((p.1.1,(p.1.2.1,(!pA p.2,()))),p.2)
namespace aA
abbrev wf(x0:jT):Prop:=fV [(.ref oR .f)] (x0,())
noncomputable def aR(x0:jT):Option ((jT×Unit)×(Int×Unit)):=
 letB (dN x0.1 x0.2.1) fun v1=>
 if(!v1.2.2)=true then
 some (((x0.1,(x0.2.1,(false,x0.2.2.2))),()),((0:Int),()))
 else
 if(!x0.2.2.1)=true then
 some (((x0.1,(x0.2.1,(false,x0.2.2.2))),()),((0:Int),()))
 else
 some (((x0.1,(v1.2.1,x0.2.2)),()),(v1.1,()))
theorem eq(x0:R)(_:wf x0):aR x0=some (((aA x0).1,()),((aA x0).2,())):=by
 obtain⟨b,i,f,_⟩:=x0
 unfold aR aA aDQ
 simp only[letB]
 cases hg:(dN b i).2.2<;>cases f<;>simp
end aA
namespace aP
abbrev wf(x0:jT):Prop:=fV [(.ref oR .f)] (x0,())
noncomputable def aR(x0:jT):Option ((jT×Unit)×aCq):=
 letB (iD x0.1 x0.2.1) fun v1=>
 if(!v1.2.2)=true then
 some (((x0.1,(x0.2.1,(false,x0.2.2.2))),()),(([]:List UInt8),()))
 else
 if(!x0.2.2.1)=true then
 some (((x0.1,(x0.2.1,(false,x0.2.2.2))),()),(([]:List UInt8),()))
 else
 some (((x0.1,(v1.2.1,x0.2.2)),()),(v1.1,()))
theorem eq(x0:R)(_:wf x0):aR x0=some (((aP x0).1,()),((aP x0).2,())):=by
 obtain⟨b,i,f,_⟩:=x0
 unfold aR aP aE1 iD
 simp only[letB]
 cases hg:(aDs b (dN b i)).2.2<;>cases f<;>simp
end aP
namespace aC
abbrev wf(x0:jT):Prop:=fV [(.ref oR .f)] (x0,())
noncomputable def aR(x0:jT):Option ((jT×Unit)×(Int×Unit)):=
 if x0.2.2.1=true then
 some (((x0.1,(x0.2.1,(true,x0.2.2.2))),()),((0:Int),()))
 else
 letB (bW x0.1 x0.2.1) fun v1=>
 if(!v1.2.2)=true then
 some (((x0.1,(x0.2.1,(true,x0.2.2.2))),()),((0:Int),()))
 else
 some (((x0.1,(v1.2.1,x0.2.2)),()),(v1.1,()))
theorem eq(x0:R)(_:wf x0):aR x0=some (((aC x0).1,()),((aC x0).2,())):=by
 obtain⟨b,i,f,_⟩:=x0
 unfold aR aC aDQ
 simp only[letB]
 cases hg:(bW b i).2.2<;>cases f<;>simp
end aC
namespace aV
abbrev wf(x0:jT):Prop:=fV [(.ref oR .f)] (x0,())
noncomputable def aR(x0:jT):Option ((jT×Unit)×aCq):=
 if x0.2.2.1=true then
 some (((x0.1,(x0.2.1,(true,x0.2.2.2))),()),(([]:List UInt8),()))
 else
 letB (iG x0.1 x0.2.1) fun v1=>
 if(!v1.2.2)=true then
 some (((x0.1,(x0.2.1,(true,x0.2.2.2))),()),(([]:List UInt8),()))
 else
 some (((x0.1,(v1.2.1,x0.2.2)),()),(v1.1,()))
theorem eq(x0:R)(_:wf x0):aR x0=some (((aV x0).1,()),((aV x0).2,())):=by
 obtain⟨b,i,f,_⟩:=x0
 unfold aR aV aE1 iG
 simp only[letB]
 cases hg:(aDs b (bW b i)).2.2<;>cases f<;>simp
end aV
namespace bL
abbrev wf(x0:jT):Prop:=fV [(.ref oR .f)] (x0,())
noncomputable def aR(x0:jT):Option ((jT×Unit)×(Cmd×Unit)):=
 letB (aA x0) fun v1=>
 letB (aA v1.1) fun v2=>
 letB (aA v2.1) fun v3=>
 letB (aA v3.1) fun v4=>
 letB (aA v4.1) fun v5=>
 letB (aA v5.1) fun v6=>
 letB (aP v6.1) fun v7=>
 letB (aP v7.1) fun v8=>
 some ((v8.1,()),(((wrap .i64 (v1.2-(1:Int))),(v2.2,(v3.2,(v4.2,(v5.2,(v6.2,(v7.2,(v8.2,())))))))),()))
theorem eq(x0:R)(_:wf x0):aR x0=some (((bL x0).1,()),((bL x0).2,())):=by
 unfold aR bL aFm
 simp only[letB]
end bL
namespace eV
abbrev wf(x0:jT):Prop:=fV [(.ref oR .f)] (x0,())
noncomputable def aR(x0:jT):Option ((jT×Unit)×(Cmd×Unit)):=
 letB (aC x0) fun v1=>
 letB (aC v1.1) fun v2=>
 letB (aC v2.1) fun v3=>
 letB (aC v3.1) fun v4=>
 letB (aC v4.1) fun v5=>
 letB (aC v5.1) fun v6=>
 letB (aV v6.1) fun v7=>
 letB (aV v7.1) fun v8=>
 if v8.1.2.2.1=true then
 some (((v8.1.1,(v8.1.2.1,(true,v8.1.2.2.2))),()),(((wrap .i64 (v1.2-(1:Int))),(v2.2,(v3.2,(v4.2,(v5.2,(v6.2,(v7.2,(v8.2,())))))))),()))
 else
 letB (pA ((wrap .i64 (v1.2-(1:Int))),(v2.2,(v3.2,(v4.2,(v5.2,(v6.2,(v7.2,(v8.2,()))))))))) fun v9=>
 some (((v8.1.1,(v8.1.2.1,((!v9),v8.1.2.2.2))),()),(((wrap .i64 (v1.2-(1:Int))),(v2.2,(v3.2,(v4.2,(v5.2,(v6.2,(v7.2,(v8.2,())))))))),()))
theorem eq(x0:R)(_:wf x0):aR x0=some (((eV x0).1,()),((eV x0).2,())):=by
 unfold aR eV aFm
 simp only[letB]
 split
 . rename_i hf;simp only[hf,if_true]
 . rename_i hf;simp only[hf,if_false,Zj]
end eV
def mT(num:R->R×Int)(cmd:R->R×Cmd)(good:Bool):Nat->R->List aL->R×List aL
 |0,s,xs=>(s,xs)
 |n+1,s,xs=>if s.2.2.1=good then mT num cmd good n (cmd (num s).1).1 (xs++[((num s).2,((cmd (num s).1).2,()))]) else(s,xs)
def aFz(num:R->R×Int)(txt:R->R×List UInt8)(cmd:R->R×Cmd)(good:Bool)(s:R):R×eF:=
 letB (num s) fun v1=>letB (num v1.1) fun v2=>letB (num v2.1) fun v3=>letB (num v3.1) fun v4=>letB (num v4.1) fun v5=>
 letB (mT num cmd good v5.2.toNat v5.1 []) fun v6=>letB (txt v6.1) fun v7=>
 (v7.1,(v1.2,(v2.2,(wrap .i64 (v3.2-1),(v4.2,(v6.2,(v7.2,())))))))
def cZ(s:R):R×eF:=aFz aA aP bL true s
theorem aNW(g:GN)(good:Bool)(s:R):(aDQ g good s).1.1=s.1:=by unfold aDQ;split<;>rfl
theorem cH(s:R):(aA s).1.1=s.1:=aNW _ _ s
theorem kG{s:R}(hb:bR s.1=true):0<=(aA s).2/\(aA s).2<=2147483647:=by
 unfold aA aDQ
 split
 . exact aG8 hb
 . simp only;decide
theorem oO{s:R}(hb:bR s.1=true):0<=(aC s).2/\(aC s).2<=2147483647:=by
 unfold aC aDQ
 split
 . exact aEl hb
 . simp only;decide
namespace cZ
def pre(_:R):Bool:=true
abbrev T:=Int×(Int×(Int×(Int×(aCq×((List aL)×aIL)))))
abbrev S:=Int×(Int×(R×T))
def pre8:S->Bool:=fun s=>decide (s.1<=2147483647)&&(decide (0<=s.2.1)&&decide ((s.2.2.2.2.2.2.2.2.2.2.2.2.2.2.1.length:Int)<=s.2.1))
def fn8:S->R×T:=fun(n,i,r,x4,x5,x6,x7,x8,x9,x10,x11,x12,x13,x14,x15,_)=>
 ((mT aA bL true (n-i).toNat r x15).1,(x4,(x5,(x6,(x7,(x8,(x9,(x10,(x11,(x12,(x13,(x14,((mT aA bL true (n-i).toNat r x15).2,())))))))))))))
def mu8:S->Nat:=fun s=>(s.1-s.2.1).toNat
noncomputable def aJr(x1:Int)(x2:Int)(x3:jT)(x4:Int)(x5:Int)(x6:Int)(x7:Int)(x8:aCq)(x9:(List aL))(x10:Int)(x11:Int)(x12:Int)(x13:Int)(x14:aCq)(x15:(List aL)):Option ((Int×(Int×(jT×(Int×(Int×(Int×(Int×(aCq×((List aL)×aIL)))))))))⊕(jT×(Int×(Int×(Int×(Int×(aCq×((List aL)×aIL)))))))):=
 if(decide (x2<x1))=true then
 if x3.2.2.1=true then
 letB (aA x3) fun v1=>
 letB (bL v1.1) fun v2=>
 if(decide (length x15+length ((v1.2,(v2.2,()))::([]:List aL))<=lV))=true then
 some (.inl (x1,((wrap .i64 (x2+(1:Int))),(v2.1,(x4,(x5,(x6,(x7,(x8,(x9,(x10,(x11,(x12,(x13,(x14,((List.append x15 ((v1.2,(v2.2,()))::([]:List aL))),()))))))))))))))))
 else
 none
 else
 some (.inr (x3,(x4,(x5,(x6,(x7,(x8,(x9,(x10,(x11,(x12,(x13,(x14,(x15,()))))))))))))))
 else
 some (.inr (x3,(x4,(x5,(x6,(x7,(x8,(x9,(x10,(x11,(x12,(x13,(x14,(x15,()))))))))))))))
abbrev wf(x0:jT):Prop:=fV [(.ref oR .f)] (x0,())
noncomputable def aR(x0:jT):Option ((jT×Unit)×(eF×Unit)):=
 letB (aA x0) fun v1=>
 letB (aA v1.1) fun v2=>
 letB (aA v2.1) fun v3=>
 letB (aA v3.1) fun v4=>
 letB (aA v4.1) fun v5=>
 if(cZ.pre8 (v5.2,((0:Int),(v5.1,((0:Int),((0:Int),((0:Int),((0:Int),((([]:List UInt8),()),(([]:List aL),(v1.2,(v2.2,((wrap .i64 (v3.2-(1:Int))),(v4.2,((([]:List UInt8),()),(([]:List aL),()))))))))))))))))=true then
 letB (cZ.fn8 (v5.2,((0:Int),(v5.1,((0:Int),((0:Int),((0:Int),((0:Int),((([]:List UInt8),()),(([]:List aL),(v1.2,(v2.2,((wrap .i64 (v3.2-(1:Int))),(v4.2,((([]:List UInt8),()),(([]:List aL),())))))))))))))))) fun v6=>
 letB (aP v6.1) fun v7=>
 some ((v7.1,()),((v6.2.2.2.2.2.2.2.1,(v6.2.2.2.2.2.2.2.2.1,(v6.2.2.2.2.2.2.2.2.2.1,(v6.2.2.2.2.2.2.2.2.2.2.1,(v6.2.2.2.2.2.2.2.2.2.2.2.2.1,(v7.2,v6.2.2.2.2.2.2.2.2.2.2.2.1.2)))))),()))
 else
 none
theorem ok8(x1 x2:Int)(x3:R)(x4 x5 x6 x7:Int)(x8:(List UInt8)×Unit)(x9:List aL)(x10 x11 x12 x13:Int)(x14:(List UInt8)×Unit)(x15:List aL)
 (hp:pre8 (x1,(x2,(x3,(x4,(x5,(x6,(x7,(x8,(x9,(x10,(x11,(x12,(x13,(x14,(x15,())))))))))))))))=true):
 Rounds pre8 mu8 fn8 (x1,(x2,(x3,(x4,(x5,(x6,(x7,(x8,(x9,(x10,(x11,(x12,(x13,(x14,(x15,()))))))))))))))) (aJr x1 x2 x3 x4 x5 x6 x7 x8 x9 x10 x11 x12 x13 x14 x15):=by
 simp only[pre8,Zb,Za] at hp
 obtain⟨h1,h2,h3⟩:=hp
 unfold aJr
 simp only[letB]
 by_cases hlt:x2<x1
 . have hs:(x1-x2).toNat=(x1-(x2+1)).toNat+1:=by omega
   rw[if_pos (by simp[hlt])]
   by_cases hf:x3.2.2.1=true
   . rw[if_pos hf,if_pos (by simp only[Za,lV,Zg,Zh];omega),iX (n:=x2+1) (by omega) (by omega)]
     simp only[Rounds]
     refine⟨?_,by simp only[mu8];omega,?_⟩
     . simp only[pre8,Zb,Za,List.append_eq,Zf,Zg,Zh];omega
     . simp only[fn8,hs,mT,if_pos hf,List.append_eq]
   . rw[if_neg hf]
     simp only[Rounds,fn8,hs,mT,if_neg hf]
 . rw[if_neg (by simp[hlt])]
   simp only[Rounds,fn8]
   rw[show(x1-x2).toNat=0 by omega]
   rfl
theorem eq(x0:R)(hw:wf x0)(_:pre x0=true):aR x0=some (((cZ x0).1,()),((cZ x0).2,())):=by
 have hb:bR x0.1=true:=gL hw.1.1.2
 unfold aR cZ aFz
 simp only[letB]
 have h5:bR (aA (aA (aA (aA x0).1).1).1).1.1=true:=by simp only[cH];exact hb
 have hn:=kG h5
 rw[if_pos (show pre8 _=true by simp only[pre8,Zb,Za,Zh];omega)]
 simp only[fn8,Int.sub_zero]
end cZ
def eN(s:R)(r:eF):R×eF:=
 ((eV (aC s).1).1,(r.1,(r.2.1,(r.2.2.1,(r.2.2.2.1,(r.2.2.2.2.1++[((aC s).2,((eV (aC s).1).2,()))],r.2.2.2.2.2))))))
namespace eN
def pre(_:R)(r:eF):Bool:=decide (r.2.2.2.2.1.length<=4000000000)
abbrev wf(x0:jT)(x1:eF):Prop:=fV [(.cell 1 oR),(.ref oR .f),(.ref aIc .o)] (x0,(x1,()))
noncomputable def aR(x0:jT)(x1:eF):Option ((jT×(eF×Unit))×Unit):=
 letB (aC x0) fun v1=>
 letB (eV v1.1) fun v2=>
 if(decide (length x1.2.2.2.2.1+length ((v1.2,(v2.2,()))::([]:List aL))<=lV))=true then
 some ((v2.1,((x1.1,(x1.2.1,(x1.2.2.1,(x1.2.2.2.1,((List.append x1.2.2.2.2.1 ((v1.2,(v2.2,()))::([]:List aL))),x1.2.2.2.2.2))))),())),())
 else
 none
theorem eq(x0:R)(x1:eF)(_:wf x0 x1)(hp:pre x0 x1=true):aR x0 x1=some (((eN x0 x1).1,((eN x0 x1).2,())),()):=by
 simp only[pre,Za] at hp
 unfold aR
 simp only[letB]
 rw[if_pos (by simp only[Za,lV,Zg,Zh];omega)]
 rfl
end eN
def dF(s:R)(r:eF):R×eF:=
 letB (aC s) fun v1=>letB (mT aC eV false v1.2.toNat v1.1 r.2.2.2.2.1) fun v2=>
 (v2.1,(r.1,(r.2.1,(r.2.2.1,(r.2.2.2.1,(v2.2,r.2.2.2.2.2))))))
namespace dF
def pre(_:R)(r:eF):Bool:=decide (r.2.2.2.2.1.length<=1000)
abbrev S:=Int×(Int×(R×aIL))
def pre2:S->Bool:=fun s=>decide (s.1<=2147483647)&&(decide (0<=s.2.1)&&decide ((s.2.2.2.2.2.2.2.2.1.length:Int)<=s.2.1+1000))
def fn2:S->R×aIL:=fun(n,i,r,x4,x5,x6,x7,x8,x9,_)=>
 ((mT aC eV false (n-i).toNat r x9).1,(x4,(x5,(x6,(x7,(x8,((mT aC eV false (n-i).toNat r x9).2,())))))))
def kX:S->Nat:=fun s=>(s.1-s.2.1).toNat
noncomputable def cU(x1:Int)(x2:Int)(x3:jT)(x4:Int)(x5:Int)(x6:Int)(x7:Int)(x8:aCq)(x9:(List aL)):Option ((Int×(Int×(jT×aIL)))⊕(jT×aIL)):=
 if(decide (x2<x1))=true then
 if(!x3.2.2.1)=true then
 if(eN.pre x3 (x4,(x5,(x6,(x7,(x9,x8))))))=true then
 letB (eN x3 (x4,(x5,(x6,(x7,(x9,x8)))))) fun v1=>
 some (.inl (x1,((wrap .i64 (x2+(1:Int))),(v1.1,(v1.2.1,(v1.2.2.1,(v1.2.2.2.1,(v1.2.2.2.2.1,(v1.2.2.2.2.2.2,(v1.2.2.2.2.2.1,()))))))))))
 else
 none
 else
 some (.inr (x3,(x4,(x5,(x6,(x7,(x8,(x9,()))))))))
 else
 some (.inr (x3,(x4,(x5,(x6,(x7,(x8,(x9,()))))))))
abbrev wf(x0:jT)(x1:eF):Prop:=fV [(.ref oR .f),(.cell 0 oR),(.ref aIc .o)] (x0,(x1,()))
noncomputable def aR(x0:jT)(x1:eF):Option ((jT×(eF×Unit))×Unit):=
 letB (aC x0) fun v1=>
 if(dF.pre2 (v1.2,((0:Int),(v1.1,(x1.1,(x1.2.1,(x1.2.2.1,(x1.2.2.2.1,(x1.2.2.2.2.2,(x1.2.2.2.2.1,()))))))))))=true then
 letB (dF.fn2 (v1.2,((0:Int),(v1.1,(x1.1,(x1.2.1,(x1.2.2.1,(x1.2.2.2.1,(x1.2.2.2.2.2,(x1.2.2.2.2.1,())))))))))) fun v2=>
 some ((v2.1,((v2.2.1,(v2.2.2.1,(v2.2.2.2.1,(v2.2.2.2.2.1,(v2.2.2.2.2.2.2.1,v2.2.2.2.2.2.1))))),())),())
 else
 none
theorem qG(x1 x2:Int)(x3:R)(x4 x5 x6 x7:Int)(x8:(List UInt8)×Unit)(x9:List aL)
 (hp:pre2 (x1,(x2,(x3,(x4,(x5,(x6,(x7,(x8,(x9,())))))))))=true):
 Rounds pre2 kX fn2 (x1,(x2,(x3,(x4,(x5,(x6,(x7,(x8,(x9,()))))))))) (cU x1 x2 x3 x4 x5 x6 x7 x8 x9):=by
 simp only[pre2,Zb,Za] at hp
 obtain⟨h1,h2,h3⟩:=hp
 unfold cU
 simp only[letB]
 by_cases hlt:x2<x1
 . have hs:(x1-x2).toNat=(x1-(x2+1)).toNat+1:=by omega
   rw[if_pos (by simp[hlt])]
   by_cases hf:x3.2.2.1=false
   . rw[if_pos (by simp[hf]),if_pos (show eN.pre _ _=true by simp[eN.pre];omega),iX (n:=x2+1) (by omega) (by omega)]
     simp only[Rounds]
     refine⟨?_,by simp only[kX];omega,?_⟩
     . simp only[pre2,eN,Zb,Za,Zf,Zg,Zh];omega
     . simp only[fn2,eN,hs,mT,if_pos hf]
   . rw[if_neg (by simpa using hf)]
     simp only[Rounds,fn2,hs,mT,if_neg hf]
 . rw[if_neg (by simp[hlt])]
   simp only[Rounds,fn2]
   rw[show(x1-x2).toNat=0 by omega]
   rfl
theorem eq(x0:R)(x1:eF)(hw:wf x0 x1)(hp:pre x0 x1=true):aR x0 x1=some (((dF x0 x1).1,((dF x0 x1).2,())),()):=by
 have hb:bR x0.1=true:=gL hw.1.1.2
 simp only[pre,Za] at hp
 unfold aR
 simp only[letB]
 have hn:=oO hb
 rw[if_pos (show pre2 _=true by simp only[pre2,Zb,Za];omega)]
 simp only[fn2,Int.sub_zero]
 rfl
end dF
def eqI(a b:Int):Bool:=decide (a=b)
def eA(b:List Int):eF×Bool:=
 letB (aFz aC aV eV false (b,(0,(false,())))) fun p=>(p.2,!p.1.2.2.1&&(eqI p.1.2.1 (b.length:Int)&&jG p.2))
theorem aN9(p:R)(r:eF)(n:Int):(if(!p.2.2.1)=true then
 if decide (p.2.1=n)=true then some ((),(r,(jG r,()))) else some ((),(r,(false,())))
 else some ((),(r,(false,()))))=some ((),(r,((!p.2.2.1&&(eqI p.2.1 n&&jG r)),()))):=by
 unfold eqI
 cases p.2.2.1
 . by_cases hl:p.2.1=n<;>simp[hl]
 . simp
namespace eA
def pre(_:List Int):Bool:=true
abbrev wf(x0:(List Int)):Prop:=fV [(.val wQ .f)] (x0,())
noncomputable def aR(x0:(List Int)):Option (Unit×(eF×(Bool×Unit))):=
 letB (aC (x0,tG)) fun v1=>
 letB (aC v1.1) fun v2=>
 letB (aC v2.1) fun v3=>
 letB (aC v3.1) fun v4=>
 if(dF.pre v4.1 (v1.2,(v2.2,((wrap .i64 (v3.2-(1:Int))),(v4.2,(([]:List aL),(([]:List UInt8),())))))))=true then
 letB (dF v4.1 (v1.2,(v2.2,((wrap .i64 (v3.2-(1:Int))),(v4.2,(([]:List aL),(([]:List UInt8),()))))))) fun v5=>
 letB (aV v5.1) fun v6=>
 if(!v6.1.2.2.1)=true then
 if(decide (v6.1.2.1=((length x0:Nat):Int)))=true then
 letB (jG (v5.2.1,(v5.2.2.1,(v5.2.2.2.1,(v5.2.2.2.2.1,(v5.2.2.2.2.2.1,(v6.2,v5.2.2.2.2.2.2.2))))))) fun v7=>
 some ((),((v5.2.1,(v5.2.2.1,(v5.2.2.2.1,(v5.2.2.2.2.1,(v5.2.2.2.2.2.1,(v6.2,v5.2.2.2.2.2.2.2)))))),(v7,())))
 else
 some ((),((v5.2.1,(v5.2.2.1,(v5.2.2.2.1,(v5.2.2.2.2.1,(v5.2.2.2.2.2.1,(v6.2,v5.2.2.2.2.2.2.2)))))),(false,())))
 else
 some ((),((v5.2.1,(v5.2.2.1,(v5.2.2.2.1,(v5.2.2.2.2.1,(v5.2.2.2.2.2.1,(v6.2,v5.2.2.2.2.2.2.2)))))),(false,())))
 else
 none
theorem eq(x0:List Int)(_:wf x0)(_:pre x0=true):aR x0=some ((),((eA x0).1,((eA x0).2,()))):=by
 unfold aR eA aFz
 simp only[letB,dF]
 rw[if_pos (show dF.pre _ _=true by simp[dF.pre])]
 exact aN9 _ _ _
end eA
def Rd(s t:R)(out:List Int):Prop:=
 t.1=s.1/\(t.2.2.1=true->s.2.2.1=true/\(0<=s.2.1->s.2.1<=(s.1.length:Int)->s.2.1<=t.2.1/\t.2.1<=(s.1.length:Int)/\bF s.2.1.toNat t.2.1.toNat s.1=out))
theorem vT{b:List Int}{i j k:Nat}(h1:i<=j)(h2:j<=k):bF i j b++bF j k b=bF i k b:=by
 unfold bF
 obtain⟨m,rfl⟩:=Nat.exists_eq_add_of_le h1
 obtain⟨n,rfl⟩:=Nat.exists_eq_add_of_le h2
 rw[show i+m-i=m by omega,show i+m+n-(i+m)=n by omega,show i+m+n-i=m+n by omega,List.take_add,List.drop_drop]
theorem oA{s t u:R}{o1 o2:List Int}(h1:Rd s t o1)(h2:Rd t u o2):Rd s u (o1++o2):=by
 refine⟨h2.1.trans h1.1,fun hf=>?_⟩
 obtain⟨hf2,g2⟩:=h2.2 hf
 obtain⟨hf1,g1⟩:=h1.2 hf2
 refine⟨hf1,fun h0 hl=>?_⟩
 obtain⟨a1,a2,a3⟩:=g1 h0 hl
 rw[h1.1] at g2
 obtain⟨b1,b2,b3⟩:=g2 (by omega) a2
 refine⟨by omega,b2,?_⟩
 rw[<-a3,<-b3,vT (by omega) (by omega)]
theorem aK1(s:R):Rd s s []:=by
 refine⟨rfl,fun hf=>⟨hf,fun _ hl=>⟨Int.le_refl _,hl,?_⟩⟩⟩
 simp[bF]
theorem uY{s:R}(hb:bR s.1=true):Rd s (aA s).1 (pD (aA s).2):=by
 refine⟨cH s,fun hf=>?_⟩
 unfold aA aDQ at *
 split at hf
 . rename_i h
   rw[if_pos h]
   obtain⟨g0,g1,g2,g3,g4,g5⟩:=nC hb h.2
   exact⟨h.1,fun _ _=>⟨by simp only;omega,g4,g5⟩⟩
 . cases hf
theorem aFc{l:List Int}(h:bR l=true):fT (kZ l)=l:=by
 induction l with
 |nil=>rfl
 |cons a r ih=>
  obtain⟨h0,h1,h2⟩:=aCb h
  simp only[kZ,fT,List.map_cons,List.map_map] at *
  rw[ih h2]
  congr 1
  rw[UInt8.toNat_ofNat']
  omega
theorem aJ5(g:GN)(good:Bool)(s:R):(aE1 g good s).1.1=s.1:=by unfold aE1;split<;>rfl
theorem aBm(s:R):(aP s).1.1=s.1:=aJ5 _ _ s
theorem aJa{s:R}(hb:bR s.1=true):Rd s (aP s).1 (rB (aP s).2):=by
 refine⟨aJ5 _ _ s,fun hf=>?_⟩
 unfold aP aE1 at *
 split at hf
 case isFalse=>cases hf
 rename_i h
 rw[if_pos h]
 obtain⟨hg,h⟩:=h
 refine⟨hg,fun h0 hl=>?_⟩
 unfold aDs at *
 by_cases hn:(dN s.1 s.2.1).2.2=true
 case neg=>rw[if_neg hn] at h;cases h
 rw[if_pos hn] at *
 obtain⟨g0,g1,g2,g3,g4,g5⟩:=nC hb hn
 by_cases hs:(s.1.length:Int)-(dN s.1 s.2.1).2.1<(dN s.1 s.2.1).1
 . rw[if_pos hs] at h;cases h
 rw[if_neg hs]
 simp only
 refine⟨by omega,by omega,?_⟩
 rw[rB,aFc (zA hb _ _),aFU,Go.Aw.dropTake_len (by omega) (by omega),
  show((((dN s.1 s.2.1).2.1+(dN s.1 s.2.1).1).toNat-(dN s.1 s.2.1).2.1.toNat:Nat):Int)=(dN s.1 s.2.1).1 by omega,<-g5,vT (by omega) (by omega)]
theorem aO4{s:R}(hb:bR s.1=true)(hok:pA (bL s).2=true):Rd s (bL s).1 (rM (bL s).2):=by
 unfold rM
 rw[if_pos hok]
 clear hok
 unfold bL aFm letB
 have hb1:bR (aA s).1.1=true:=by rw[cH];exact hb
 have r1:=uY hb
 have l1:=kG hb
 have r2:=uY hb1
 have hb2:bR (aA (aA s).1).1.1=true:=by rw[cH];exact hb1
 have r3:=uY hb2
 have hb3:bR (aA (aA (aA s).1).1).1.1=true:=by rw[cH];exact hb2
 have r4:=uY hb3
 have hb4:bR (aA (aA (aA (aA s).1).1).1).1.1=true:=by rw[cH];exact hb3
 have r5:=uY hb4
 have hb5:bR (aA (aA (aA (aA (aA s).1).1).1).1).1.1=true:=by rw[cH];exact hb4
 have r6:=uY hb5
 have hb6:bR (aA (aA (aA (aA (aA (aA s).1).1).1).1).1).1.1=true:=by rw[cH];exact hb5
 have r7:=aJa hb6
 have hb7:bR (aP (aA (aA (aA (aA (aA (aA s).1).1).1).1).1).1).1.1=true:=by rw[aBm];exact hb6
 have r8:=aJa hb7
 have:=oA (oA (oA (oA (oA (oA (oA r1 r2) r3) r4) r5) r6) r7) r8
 simp only
 rw[iX (n:=(aA s).2-1) (by omega) (by omega),show(aA s).2-1+1=(aA s).2 by omega,iX (n:=(aA s).2) (by omega) (by omega)]
 simpa only[yE,List.flatMap_cons,List.flatMap_nil,List.append_nil,List.append_eq,Zk] using this
theorem aNM{num:R->R×Int}{txt:R->R×List UInt8}(h1:∀s,(num s).1.1=s.1)(h2:∀s,(txt s).1.1=s.1)(s:R):(aFm num txt s).1.1=s.1:=by
 unfold aFm letB
 simp only[h1,h2]
theorem vG(s:R):(bL s).1.1=s.1:=aNM cH (aJ5 _ _) s
theorem aJS:(n:Nat)->(s:R)->(xs:List aL)->bR s.1=true->
 ∃zs,(mT aA bL true n s xs).2=xs++zs/\(mT aA bL true n s xs).1.1=s.1/\
  ((∀e∈zs,pA e.2.1=true)->Rd s (mT aA bL true n s xs).1 (aDt zs)/\((mT aA bL true n s xs).1.2.2.1=true->zs.length=n))
 |0,s,xs,_=>⟨[],by simp[mT],rfl,fun _=>⟨aK1 s,fun _=>rfl⟩⟩
 |n+1,s,xs,hb=>by
  unfold mT
  by_cases hf:s.2.2.1=true
  . rw[if_pos hf]
    have hb1:bR (aA s).1.1=true:=by rw[cH];exact hb
    have hb2:bR (bL (aA s).1).1.1=true:=by rw[vG];exact hb1
    obtain⟨zs,e1,e2,e3⟩:=aJS n (bL (aA s).1).1 (xs++[((aA s).2,((bL (aA s).1).2,()))]) hb2
    refine⟨((aA s).2,((bL (aA s).1).2,()))::zs,by rw[e1];simp,by rw[e2,vG,cH],fun hok=>?_⟩
    obtain⟨r,l⟩:=e3 fun e he=>hok e (Zo _ he)
    have hc:=hok _ (List.mem_cons_self ..)
    refine⟨?_,fun h=>by rw[Zg,l h]⟩
    have:=oA (oA (uY hb) (aO4 hb1 hc)) r
    simpa only[aDt,aKT,List.flatMap_cons,Zk] using this
  . rw[if_neg hf]
    exact⟨[],by simp,rfl,fun _=>⟨aK1 s,fun h=>absurd h hf⟩⟩
theorem aNb{xs:List aL}{t:Int}(h:gT xs t=true):∀e∈xs,pA e.2.1=true:=by
 intro e he
 simp only[gT,Zb] at h
 have:=Zu.1 h.1 e he
 simp only[eOk,Zb] at this
 exact this.2
theorem aDc{r:eF}(h:jG r=true):∀e∈r.2.2.2.2.1,pA e.2.1=true:=by
 simp only[jG,Zb] at h
 exact aNb h.2.2.1
theorem aN7{s:R}(hb:bR s.1=true)(h:jG (cZ s).2=true):Rd s (cZ s).1 (mF (cZ s).2):=by
 have hc:=aDc h
 clear h
 unfold mF aBl
 unfold cZ aFz letB at *
 simp only at *
 have hb1:bR (aA s).1.1=true:=by rw[cH];exact hb
 have r1:=uY hb
 have r2:=uY hb1
 have hb2:bR (aA (aA s).1).1.1=true:=by rw[cH];exact hb1
 have r3:=uY hb2
 have l3:=kG hb2
 have hb3:bR (aA (aA (aA s).1).1).1.1=true:=by rw[cH];exact hb2
 have r4:=uY hb3
 have hb4:bR (aA (aA (aA (aA s).1).1).1).1.1=true:=by rw[cH];exact hb3
 have r5:=uY hb4
 have l5:=kG hb4
 have hb5:bR (aA (aA (aA (aA (aA s).1).1).1).1).1.1=true:=by rw[cH];exact hb4
 rw[iX (n:=_-1) (by omega) (by omega),Int.sub_add_cancel,iX (n:=(aA (aA (aA s).1).1).2) (by omega) (by omega)]
 generalize hv5:aA (aA (aA (aA (aA s).1).1).1).1=v5 at *
 obtain⟨zs,e1,e2,e3⟩:=aJS v5.2.toNat v5.1 [] hb5
 rw[List.nil_append] at e1
 rw[e1] at hc ⊢
 obtain⟨r6,l6⟩:=e3 hc
 have hb6:bR (mT aA bL true v5.2.toNat v5.1 []).1.1=true:=by rw[e2];exact hb5
 have r7:=aJa hb6
 generalize mT aA bL true v5.2.toNat v5.1 []=v6 at *
 have hall:=oA (oA (oA (oA (oA (oA r1 r2) r3) r4) r5) r6) r7
 refine⟨hall.1,fun hf=>?_⟩
 have hz:(zs.length:Int)=v5.2:=by
  have:=l6 (r7.2 hf).1
  omega
 have:=hall.2 hf
 rw[hz]
 exact this
def oZ(s:R):R:=(s.1,(s.2.1,(!s.2.2.1,())))
theorem aC1{s:R}(hl:s.1.length<=9223372036854775802):aC (oZ s)=(oZ (aA s).1,(aA s).2):=by
 obtain⟨b,i,f,_⟩:=s
 unfold aC aA aDQ oZ
 simp only
 rw[wE hl]
 cases f<;>cases(dN b i).2.2<;>simp
theorem aEC{s:R}(hl:s.1.length<=9223372036854775802):aV (oZ s)=(oZ (aP s).1,(aP s).2):=by
 obtain⟨b,i,f,_⟩:=s
 unfold aV aP aE1 oZ
 simp only
 rw[wE hl]
 cases f<;>cases(aDs b (dN b i)).2.2<;>simp
theorem aKO{s:R}(hl:s.1.length<=9223372036854775802):aFm aC aV (oZ s)=(oZ (bL s).1,(bL s).2):=by
 have hn:∀t:R,t.1=s.1->aC (oZ t)=(oZ (aA t).1,(aA t).2):=fun t ht=>aC1 (by rw[ht];exact hl)
 have ht:∀t:R,t.1=s.1->aV (oZ t)=(oZ (aP t).1,(aP t).2):=fun t ht=>aEC (by rw[ht];exact hl)
 unfold aFm bL aFm letB
 rw[hn s rfl];simp only
 rw[hn _ (by simp only[cH])];simp only
 rw[hn _ (by simp only[cH])];simp only
 rw[hn _ (by simp only[cH])];simp only
 rw[hn _ (by simp only[cH])];simp only
 rw[hn _ (by simp only[cH])];simp only
 rw[ht _ (by simp only[cH])];simp only
 rw[ht _ (by simp only[cH,aBm])]
theorem aJc(g:GN)(good:Bool){s:R}(h:s.2.2.1=!good):(aE1 g good s).1=s:=by
 obtain⟨b,i,f,_⟩:=s
 unfold aE1
 rw[if_neg (by rintro⟨h1,_⟩;rw[h1] at h;cases good<;>cases h)]
 simp only at h ⊢
 rw[h]
theorem aG3:(n:Nat)->(s:R)->(xs:List aL)->s.1.length<=9223372036854775802->
 mT aC eV false n (oZ s) xs=(oZ (mT aA bL true n s xs).1,(mT aA bL true n s xs).2)\/
 ((mT aC eV false n (oZ s) xs).1.2.2.1=true/\∃e∈(mT aA bL true n s xs).2,pA e.2.1=false)
 |0,s,xs,_=>.inl rfl
 |n+1,s,xs,hl=>by
  unfold mT
  by_cases hf:s.2.2.1=true
  case neg=>
   rw[if_neg hf,if_neg (by simpa [oZ] using hf)]
   exact .inl rfl
  rw[if_pos hf,if_pos (by simpa [oZ] using hf),aC1 hl]
  simp only
  have hl1:(aA s).1.1.length<=9223372036854775802:=by rw[cH];exact hl
  have hl2:(bL (aA s).1).1.1.length<=9223372036854775802:=by rw[vG];exact hl1
  have hc:=aKO hl1
  by_cases hok:(bL (aA s).1).1.2.2.1=true/\pA (bL (aA s).1).2=false
  . -- the program stops here
    refine .inr ⟨?_,?_⟩
    . have hr:eV (oZ (aA s).1)=(((bL (aA s).1).1.1,((bL (aA s).1).1.2.1,(true,()))),(bL (aA s).1).2):=by
       unfold eV letB
       rw[hc]
       simp only[oZ,hok.1,hok.2,Bool.not_true,Bool.not_false,Zj,if_false]
      rw[hr]
      cases n with
      |zero=>rfl
      |succ m=>unfold mT;rfl
    . cases hn:n with
      |zero=>exact⟨_,by simp only[mT];exact List.mem_append_right _ (Zq.2 rfl),hok.2⟩
      |succ m=>
       have:∀(n:Nat) (s:R) (xs:List aL),∀e∈xs,e∈(mT aA bL true n s xs).2:=by
        intro n
        induction n with
        |zero=>exact fun _ _ _ h=>h
        |succ n ih=>
         intro s xs e h
         unfold mT
         split
         . exact ih _ _ _ (List.mem_append_left _ h)
         . exact h
       exact⟨_,this _ _ _ _ (List.mem_append_right _ (Zq.2 rfl)),hok.2⟩
  . have hr:eV (oZ (aA s).1)=(oZ (bL (aA s).1).1,(bL (aA s).1).2):=by
     unfold eV letB
     rw[hc]
     simp only
     generalize bL (aA s).1=p at *
     obtain⟨⟨b,i,f,_⟩,c⟩:=p
     simp only[oZ] at *
     cases f
     . simp
     . simp only[true_and,Bool.not_eq_false] at hok
       simp[hok]
    rw[hr]
    exact aG3 n _ _ hl2
def aGH(b:List Int):Bool:=
 (cZ (b,(0,(true,())))).1.2.2.1&&(eqI (cZ (b,(0,(true,())))).1.2.1 (b.length:Int)&&jG (cZ (b,(0,(true,())))).2)
theorem aMY{b:List Int}(hl:b.length<=9223372036854775802):
 (eA b).2=aGH b/\(aGH b=true->(eA b).1=(cZ (b,(0,(true,())))).2):=by
 have hn:∀t:R,t.1=b->aC (oZ t)=(oZ (aA t).1,(aA t).2):=fun t ht=>aC1 (by rw[ht];exact hl)
 have hf0:((b,tG):R)=oZ (b,((0:Int),(true,()))):=rfl
 unfold eA aGH
 rw[hf0]
 unfold cZ
 generalize hs:((b,((0:Int),(true,()))):R)=s
 have hsb:s.1=b:=by rw[<-hs]
 unfold aFz letB
 simp only[hn,cH,hsb]
 have hl5:(aA (aA (aA (aA (aA s).1).1).1).1).1.1.length<=9223372036854775802:=by simp only[cH,hsb];exact hl
 have hb5:(aA (aA (aA (aA (aA s).1).1).1).1).1.1=b:=by simp only[cH,hsb]
 generalize aA (aA (aA (aA (aA s).1).1).1).1=v5 at *
 rcases aG3 v5.2.toNat v5.1 [] hl5 with h|⟨h,e,he,hc⟩
 . simp only[h]
   have hb6:∀(n:Nat) (t:R) (xs:List aL),(mT aA bL true n t xs).1.1=t.1:=by
    intro n
    induction n with
    |zero=>exact fun _ _=>rfl
    |succ n ih=>
     intro t xs
     unfold mT
     split
     . rw[ih,vG,cH]
     . rfl
   have h6:=hb6 v5.2.toNat v5.1 []
   generalize mT aA bL true v5.2.toNat v5.1 []=v6 at *
   have h7:=aEC (s:=v6.1) (by rw[h6];exact hl5)
   simp only[h7]
   simp only[oZ,Bool.not_not]
   exact⟨trivial,fun _=>trivial⟩
 . have hbad:∀r:eF,r.2.2.2.2.1=(mT aA bL true v5.2.toNat v5.1 []).2->jG r=false:=by
    intro r hr
    cases hk:jG r
    . rfl
    . have:=aDc hk e (by rw[hr];exact he)
      rw[hc] at this;cases this
   have ht:(aV (mT aC eV false v5.2.toNat (oZ v5.1) []).1).1=(mT aC eV false v5.2.toNat (oZ v5.1) []).1:=aJc _ _ h
   simp only[ht,h,Bool.not_true,Bool.false_and]
   rw[hbad _ rfl]
   simp
def sU:eF:=(0,(0,(0,(0,([],([],()))))))
def ofV(v:Int×(Int×Bool))(b:List Int)(k:List Int->Int->eF×(Int×Bool)):eF×(Int×Bool):=
 if v.2.2=true then
  if(b.length:Int)-v.2.1-4<v.1 then(sU,(0,false))
  else k (bF v.2.1.toNat (v.2.1+v.1).toNat b) (v.2.1+v.1+4)
 else(sU,(0,false))
def bG(b:List Int)(i:Int):eF×(Int×Bool):=
 ofV (dN b i) b fun body e=>if kZ (aHu (xC body))=kZ (bF (e-4).toNat e.toNat b) then
  (if aGH body=true then((cZ (body,(0,(true,())))).2,(e,true)) else(sU,(0,false))) else(sU,(0,false))
def gH(b:List Int)(i:Int):eF×(Int×Bool):=
 ofV (bW b i) b fun body e=>if(eA body).2=true then
  (if kZ (sE (eA body).1)=kZ (bF i.toNat e.toNat b) then((eA body).1,(e,true)) else(sU,(0,false))) else(sU,(0,false))
theorem aK9(a b:List Int):kZ (a++b)=kZ a++kZ b:=by simp[kZ]
theorem aIe{b:List Int}(i:Int)(hb:bR b=true)(hl:b.length<=9223372036854775802):gH b i=bG b i:=by
 unfold gH bG ofV
 rw[wE hl]
 by_cases h:(dN b i).2.2=true
 case neg=>rw[if_neg h,if_neg h]
 rw[if_pos h,if_pos h]
 obtain⟨g0,g1,g2,g3,g4,g5⟩:=nC hb h
 generalize dN b i=v at *
 split
 . rfl
 rename_i hle
 have hbl:(bF v.2.1.toNat (v.2.1+v.1).toNat b).length=(v.2.1+v.1).toNat-v.2.1.toNat:=Go.Aw.dropTake_len (by omega) (by omega)
 have hbb:bR (bF v.2.1.toNat (v.2.1+v.1).toNat b)=true:=zA hb _ _
 have hhead:bF v.2.1.toNat (v.2.1+v.1).toNat b++bF (v.2.1+v.1).toNat (v.2.1+v.1+4).toNat b=bF v.2.1.toNat (v.2.1+v.1+4).toNat b:=vT (by omega) (by omega)
 have hall:pD v.1++bF v.2.1.toNat (v.2.1+v.1+4).toNat b=bF i.toNat (v.2.1+v.1+4).toNat b:=by rw[<-g5,vT (by omega) (by omega)]
 generalize hbd:bF v.2.1.toNat (v.2.1+v.1).toNat b=body at *
 obtain⟨h1,h2⟩:=aMY (b:=body) (by omega)
 show(if(eA body).2=true then(if kZ (sE (eA body).1)=kZ (bF i.toNat (v.2.1+v.1+4).toNat b) then((eA body).1,(v.2.1+v.1+4,true)) else(sU,(0,false))) else(sU,(0,false)))=(if kZ (aHu (xC body))=kZ (bF (v.2.1+v.1+4-4).toNat (v.2.1+v.1+4).toNat b) then
  (if aGH body=true then((cZ (body,(0,(true,())))).2,(v.2.1+v.1+4,true)) else(sU,(0,false))) else(sU,(0,false)))
 rw[h1]
 by_cases hok:aGH body=true
 case neg=>
  rw[if_neg hok,if_neg hok];split<;>rfl
 rw[if_pos hok,if_pos hok,h2 hok,show v.2.1+v.1+4-4=v.2.1+v.1 by omega]
 unfold aGH eqI at hok
 simp only[Zb,Za] at hok
 obtain⟨k1,k2,k3⟩:=hok
 have hr:=(aN7 (s:=(body,((0:Int),(true,())))) hbb k3).2 k1
 have hbody:=(hr.2 (Int.le_refl _) (by simp only;omega)).2.2
 rw[k2] at hbody
 have hbody2:body=mF (cZ (body,(0,(true,())))).2:=by
  rw[<-hbody];simp[bF]
 unfold sE
 rw[if_pos k3,<-hbody2,<-hall,<-hhead,show((body.length:Nat):Int)=v.1 by omega]
 simp only[aK9,Zk]
 by_cases hs:kZ (aHu (xC body))=kZ (bF (v.2.1+v.1).toNat (v.2.1+v.1+4).toNat b)
 . rw[if_pos hs,if_pos (by rw[hs])]
 . rw[if_neg hs,if_neg]
   intro hq
   exact hs (List.append_cancel_left (List.append_cancel_left hq))
namespace bG
def pre(_:List Int)(_:Int):Bool:=true
abbrev wf(x0:(List Int))(x1:Int):Prop:=fV [(.val wQ .f),(.val (.int .i64) .f)] (x0,(x1,()))
noncomputable def aR(x0:(List Int))(x1:Int):Option (Unit×(eF×aDo)):=
 letB (dN x0 x1) fun v1=>
 if(!v1.2.2)=true then
 some ((),(aBe,tG))
 else
 if(decide ((wrap .i64 ((wrap .i64 (((length x0:Nat):Int)-v1.2.1))-(4:Int)))<v1.1))=true then
 some ((),(aBe,tG))
 else
 if(decide ((0:Int)<=v1.2.1))=true then
 if(decide (v1.2.1<=(wrap .i64 (v1.2.1+v1.1))))=true then
 if(decide ((wrap .i64 (v1.2.1+v1.1))<=((length x0:Nat):Int)))=true then
 if(decide ((0:Int)<=(wrap .i64 (v1.2.1+v1.1))))=true then
 if(decide ((wrap .i64 (v1.2.1+v1.1))<=(wrap .i64 ((wrap .i64 (v1.2.1+v1.1))+(4:Int)))))=true then
 if(decide ((wrap .i64 ((wrap .i64 (v1.2.1+v1.1))+(4:Int)))<=((length x0:Nat):Int)))=true then
 letB (oQ (bF (Int.toNat v1.2.1) (Int.toNat (wrap .i64 (v1.2.1+v1.1))) x0)) fun v2=>
 if(!((kZ v2)==(kZ (bF (Int.toNat (wrap .i64 (v1.2.1+v1.1))) (Int.toNat (wrap .i64 ((wrap .i64 (v1.2.1+v1.1))+(4:Int)))) x0))))=true then
 some ((),(aBe,tG))
 else
 if(cZ.pre ((bF (Int.toNat v1.2.1) (Int.toNat (wrap .i64 (v1.2.1+v1.1))) x0),((0:Int),(true,()))))=true then
 letB (cZ ((bF (Int.toNat v1.2.1) (Int.toNat (wrap .i64 (v1.2.1+v1.1))) x0),((0:Int),(true,())))) fun v3=>
 if(!v3.1.2.2.1)=true then
 some ((),(aBe,tG))
 else
 if(!(decide (v3.1.2.1=((length (bF (Int.toNat v1.2.1) (Int.toNat (wrap .i64 (v1.2.1+v1.1))) x0):Nat):Int))))=true then
 some ((),(aBe,tG))
 else
 letB (jG v3.2) fun v4=>
 if(!v4)=true then
 some ((),(aBe,tG))
 else
 some ((),(v3.2,((wrap .i64 ((wrap .i64 (v1.2.1+v1.1))+(4:Int))),(true,()))))
 else
 none
 else
 none
 else
 none
 else
 none
 else
 none
 else
 none
 else
 none
theorem eq(x0:List Int)(x1:Int)(hw:wf x0 x1)(_:pre x0 x1=true):aR x0 x1=some ((),((bG x0 x1).1,((bG x0 x1).2.1,((bG x0 x1).2.2,())))):=by
 have h1:x0.length<=maxLen:=hw.1.1
 have hM:=lJ
 have hb:bR x0=true:=gL hw.1.2
 unfold aR bG ofV
 simp only[letB]
 by_cases h:(dN x0 x1).2.2=true
 case neg=>rw[if_pos (by simp[h]),if_neg h];rfl
 obtain⟨g0,g1,g2,g3,g4,g5⟩:=nC hb h
 generalize dN x0 x1=v at *
 rw[if_neg (by simp[h]),if_pos h,iX (n:=(x0.length:Int)-_) (by omega) (by omega),iX (n:=(x0.length:Int)-v.2.1-4) (by omega) (by omega)]
 by_cases hl:(x0.length:Int)-v.2.1-4<v.1
 . rw[if_pos (by simp only[Za];exact hl),if_pos hl];rfl
 rw[if_neg (by simp only[Za];exact hl),if_neg hl,iX (n:=v.2.1+v.1) (by omega) (by omega),iX (n:=v.2.1+v.1+4) (by omega) (by omega)]
 rw[if_pos (by simp only[Za];omega),if_pos (by simp only[Za];omega),if_pos (by simp only[Za];omega),if_pos (by simp only[Za];omega),if_pos (by simp only[Za];omega),if_pos (by simp only[Za];omega)]
 rw[if_pos (show cZ.pre _=true from rfl),show v.2.1+v.1+4-4=v.2.1+v.1 by omega]
 generalize bF v.2.1.toNat (v.2.1+v.1).toNat x0=body
 have hs:oQ body=aHu (xC body):=rfl
 rw[hs]
 by_cases hq:kZ (aHu (xC body))=kZ (bF (v.2.1+v.1).toNat (v.2.1+v.1+4).toNat x0)
 case neg=>rw[if_pos (by simpa using hq),if_neg hq];rfl
 rw[if_neg (by simpa using hq),if_pos hq]
 unfold aGH eqI
 generalize cZ (body,((0:Int),(true,())))=p
 obtain⟨⟨b,i,f,_⟩,r⟩:=p
 simp only
 cases f
 . simp[sU]
 . by_cases hi:i=(body.length:Int)
   . cases jG r<;>simp[hi,sU]
   . simp[hi,sU]
end bG
namespace gH
def pre(_:List Int)(i:Int):Bool:=decide (i<=i)
abbrev wf(x0:(List Int))(x1:Int):Prop:=fV [(.val wQ .f),(.val (.int .i64) .f)] (x0,(x1,()))
noncomputable def aR(x0:(List Int))(x1:Int):Option (Unit×(eF×aDo)):=
 letB (bW x0 x1) fun v1=>
 if(!v1.2.2)=true then
 some ((),(aBe,tG))
 else
 if(decide ((wrap .i64 ((wrap .i64 (((length x0:Nat):Int)-v1.2.1))-(4:Int)))<v1.1))=true then
 some ((),(aBe,tG))
 else
 if(decide ((0:Int)<=v1.2.1))=true then
 if(decide (v1.2.1<=(wrap .i64 (v1.2.1+v1.1))))=true then
 if(decide ((wrap .i64 (v1.2.1+v1.1))<=((length x0:Nat):Int)))=true then
 if(eA.pre (bF (Int.toNat v1.2.1) (Int.toNat (wrap .i64 (v1.2.1+v1.1))) x0))=true then
 letB (eA (bF (Int.toNat v1.2.1) (Int.toNat (wrap .i64 (v1.2.1+v1.1))) x0)) fun v2=>
 if(!v2.2)=true then
 some ((),(aBe,tG))
 else
 if(decide ((0:Int)<=x1))=true then
 if(decide (x1<=(wrap .i64 ((wrap .i64 (v1.2.1+v1.1))+(4:Int)))))=true then
 if(decide ((wrap .i64 ((wrap .i64 (v1.2.1+v1.1))+(4:Int)))<=((length x0:Nat):Int)))=true then
 letB (sE v2.1) fun v3=>
 if(!((kZ v3)==(kZ (bF (Int.toNat x1) (Int.toNat (wrap .i64 ((wrap .i64 (v1.2.1+v1.1))+(4:Int)))) x0))))=true then
 some ((),(aBe,tG))
 else
 some ((),(v2.1,((wrap .i64 ((wrap .i64 (v1.2.1+v1.1))+(4:Int))),(true,()))))
 else
 none
 else
 none
 else
 none
 else
 none
 else
 none
 else
 none
 else
 none
theorem eq(x0:List Int)(x1:Int)(hw:wf x0 x1)(_:pre x0 x1=true):aR x0 x1=some ((),((gH x0 x1).1,((gH x0 x1).2.1,((gH x0 x1).2.2,())))):=by
 have h1:x0.length<=maxLen:=hw.1.1
 have hM:=lJ
 have hb:bR x0=true:=gL hw.1.2
 unfold aR gH ofV
 simp only[letB]
 by_cases h:(bW x0 x1).2.2=true
 case neg=>rw[if_pos (by simp[h]),if_neg h];rfl
 have hg:=aAc h
 rw[hg] at h ⊢
 obtain⟨g0,g1,g2,g3,g4,g5⟩:=nC hb h
 generalize dN x0 x1=v at *
 rw[if_neg (by simp[h]),if_pos h,iX (n:=(x0.length:Int)-_) (by omega) (by omega),iX (n:=(x0.length:Int)-v.2.1-4) (by omega) (by omega)]
 by_cases hl:(x0.length:Int)-v.2.1-4<v.1
 . rw[if_pos (by simp only[Za];exact hl),if_pos hl];rfl
 rw[if_neg (by simp only[Za];exact hl),if_neg hl,iX (n:=v.2.1+v.1) (by omega) (by omega),iX (n:=v.2.1+v.1+4) (by omega) (by omega)]
 rw[if_pos (by simp only[Za];omega),if_pos (by simp only[Za];omega),if_pos (by simp only[Za];omega),if_pos (show eA.pre _=true from rfl)]
 generalize eA (bF v.2.1.toNat (v.2.1+v.1).toNat x0)=p
 obtain⟨r,f⟩:=p
 cases f
 . simp[sU]
 rw[if_neg (by simp),if_pos (by simp only[Za];omega),if_pos (by simp only[Za];omega),if_pos (by simp only[Za];omega)]
 by_cases hq:kZ (sE r)=kZ (bF x1.toNat (v.2.1+v.1+4).toNat x0)
 . rw[if_neg (by simpa using hq)];simp[hq]
 . rw[if_pos (by simpa using hq)];simp[hq,sU]
end gH
section
variable {α:Type}
theorem pI{xs:List α}{i:Nat}{f:α->α}{d:α}(h:i<xs.length):(xs.modify i f).getD i d=f (xs.getD i d):=by
 rw[eZ (by rw[List.length_modify];exact h),eZ h,List.getElem_modify,if_pos rfl]
def bJ(g:α->Int):List α->Int
 |[]=>0
 |a::r=>g a+bJ g r
def pF(m:α->Int->α)(g:α->Int):List α->Int->List α
 |[],_=>[]
 |a::r,k=>m a k::pF m g r (k+g a)
structure aA4(m:α->Int->α)(g:α->Int):Prop where
 pos:∀x,1<=g x
 keep:∀x k,g (m x k)=g x
 idem:∀x k,m (m x k) k=m x k
theorem aBR{m:α->Int->α}{g:α->Int}(ok:aA4 m g):(xs:List α)->(xs.length:Int)<=bJ g xs
 |[]=>by simp[bJ]
 |a::r=>by
  have:=ok.pos a
  have:=aBR ok r
  simp only[bJ,Zg];omega
theorem gP{m:α->Int->α}{g:α->Int}(ok:aA4 m g)(xs:List α):0<=bJ g xs:=by
 have:=aBR ok xs
 omega
theorem lH{m:α->Int->α}{g:α->Int}(ok:aA4 m g):(xs:List α)->(k:Int)->bJ g (pF m g xs k)=bJ g xs
 |[],_=>rfl
 |a::r,k=>by simp only[pF,bJ,ok.keep,lH ok r]
theorem uB{m:α->Int->α}{g:α->Int}(ok:aA4 m g):(xs:List α)->(k:Int)->pF m g (pF m g xs k) k=pF m g xs k
 |[],_=>rfl
 |a::r,k=>by simp only[pF,ok.keep,ok.idem,uB ok r]
abbrev MkS(α:Type):=Int×(Int×(List α×Unit))
def sK(g:α->Int):MkS α->Bool:=fun s=>decide (0<=s.1)&&(decide (0<=s.2.1)&&(decide (s.2.1.toNat<=s.2.2.1.length)&&(decide (s.2.2.1.length<=134217728)&&decide (s.1+bJ g (s.2.2.1.drop s.2.1.toNat)<=134217728))))
def aDn(m:α->Int->α)(g:α->Int):MkS α->Int×(List α×Unit):=fun s=>(s.1+bJ g (s.2.2.1.drop s.2.1.toNat),(s.2.2.1.take s.2.1.toNat++pF m g (s.2.2.1.drop s.2.1.toNat) s.1,()))
def aER:MkS α->Nat:=fun s=>s.2.2.1.length-s.2.1.toNat
theorem tD{m:α->Int->α}{g:α->Int}(ok:aA4 m g){k i:Int}{xs:List α}(hp:sK g (k,(i,(xs,())))=true)(hlt:i<(xs.length:Int))(d:α):
 0<=i/\0<=k/\k+g (xs.getD i.toNat d)<=134217728/\i.toNat<xs.length:=by
 simp only[sK,Zb,Za] at hp
 obtain⟨h1,h2,h3,h4,h5⟩:=hp
 have hn:i.toNat<xs.length:=by omega
 rw[eZ hn]
 rw[Zn hn] at h5
 have:=gP ok (xs.drop (i.toNat+1))
 simp only[bJ] at h5
 exact⟨h2,h1,by omega,hn⟩
theorem xH{m:α->Int->α}{g:α->Int}(ok:aA4 m g){k i:Int}{xs:List α}(hp:sK g (k,(i,(xs,())))=true)(hlt:i<(xs.length:Int))(d:α)
 {K:Int} {f:α->α} (hK:K=k+g (xs.getD i.toNat d)) (hf:f (xs.getD i.toNat d)=m (xs.getD i.toNat d) k):
 Rounds (sK g) aER (aDn m g) (k,(i,(xs,()))) (some (.inl (K,(wrap .i64 (i+1),(xs.modify i.toNat f,()))))):=by
 have hfa:=tD ok hp hlt d
 simp only[sK,Zb,Za] at hp
 obtain⟨h1,h2,h3,h4,h5⟩:=hp
 have hn:i.toNat<xs.length:=by omega
 rw[eZ hn] at *
 have hpos:=ok.pos xs[i.toNat]
 have hd:(xs.modify i.toNat f).drop (i.toNat+1)=xs.drop (i.toNat+1):=by
  rw[List.drop_modify_of_lt];omega
 have ht:(xs.modify i.toNat f).take (i.toNat+1)=xs.take i.toNat++[m xs[i.toNat] k]:=by
  rw[List.take_add_one,Zm (by rw[List.length_modify];exact hn),List.getElem_modify,if_pos rfl,hf]
  congr 1
  apply List.ext_getElem?
  intro j
  rw[List.getElem?_take,List.getElem?_take]
  split
  . rw[List.getElem?_modify]
    have hne:¬i.toNat=j:=by omega
    simp only[hne,if_false]
    cases xs[j]?<;>rfl
  . rfl
 rw[Zn hn] at h5
 simp only[bJ] at h5
 simp only[Rounds,iX (n:=i+1) (by omega) (by omega)]
 have ei:(i+1).toNat=i.toNat+1:=by omega
 refine⟨?_,by simp only[aER,List.length_modify];omega,?_⟩
 . simp only[sK,Zb,Za,List.length_modify,ei,hd]
   omega
 . simp only[aDn,ei,hd,ht]
   conv=>rhs;rw[Zn hn]
   simp only[bJ,pF,hK,Zk,List.cons_append,List.nil_append,Int.add_assoc]
theorem aAQ{m:α->Int->α}{g:α->Int}{k i:Int}{xs:List α}(hp:sK g (k,(i,(xs,())))=true)(hlt:¬i<(xs.length:Int)):
 Rounds (sK g) aER (aDn m g) (k,(i,(xs,()))) (some (.inr (k,(xs,())))):=by
 simp only[sK,Zb,Za] at hp
 obtain⟨h1,h2,h3,h4,h5⟩:=hp
 simp only[Rounds,aDn]
 rw[Zt (by omega),List.take_of_length_le (by omega)]
 simp[bJ,pF]
def zZ(g:α->Int)(xs:List α)(k:Int):Bool:=decide (0<=k)&&decide (k+bJ g xs<=134217728)
theorem mL{g:α->Int}{xs:List α}{k:Int}:zZ g xs k=true↔0<=k/\k+bJ g xs<=134217728:=by simp[zZ]
theorem uF{m:α->Int->α}{g:α->Int}(ok:aA4 m g){xs:List α}{k:Int}(h:zZ g xs k=true):sK g (k,((0:Int),(xs,())))=true:=by
 rw[mL] at h
 have:=aBR ok xs
 simp only[sK,Zb,Za,Int.toNat_zero,List.drop_zero]
 omega
noncomputable def vA(m:α->Int->α)(g:α->Int)(x:α)(k:Int):Int:=cond (same x (m x k)) (k+g x) (-1)
theorem mW{m:α->Int->α}{g:α->Int}{x:α}{k:Int}(h:x=m x k):vA m g x k=k+g x:=by
 rw[vA,bV.2 h];rfl
theorem kD{m:α->Int->α}{g:α->Int}{x:α}{k:Int}(h:¬x=m x k):vA m g x k=-1:=by
 rw[vA,aQ.2 h];rfl
theorem aMK{m:α->Int->α}{g:α->Int}(h1:∀x k,g (m x k)=g x)(h2:∀x k,m (m x k) k=m x k)(x:α)(k:Int):vA m g (m x k) k=k+g x:=by
 rw[mW (h2 x k).symm,h1]
abbrev HeS(α:Type):=List α×(Int×(Int×Unit))
def rI(g:α->Int):HeS α->Bool:=fun s=>decide (0<=s.2.1)&&(decide (0<=s.2.2.1)&&(decide (s.2.2.1.toNat<=s.1.length)&&(decide (s.1.length<=134217728)&&decide (s.2.1+bJ g (s.1.drop s.2.2.1.toNat)<=134217728))))
noncomputable def aBx(m:α->Int->α)(g:α->Int):HeS α->(Int×Unit)⊕(Int×Unit):=fun s=>
 cond (same (s.1.drop s.2.2.1.toNat) (pF m g (s.1.drop s.2.2.1.toNat) s.2.1)) (.inr (s.2.1+bJ g (s.1.drop s.2.2.1.toNat),())) (.inl (-1,()))
def aEO:HeS α->Nat:=fun s=>s.1.length-s.2.2.1.toNat
theorem wN{m:α->Int->α}{g:α->Int}(ok:aA4 m g){k i:Int}{xs:List α}(hp:rI g (xs,(k,(i,())))=true)(hlt:i<(xs.length:Int))(d:α):
 0<=i/\0<=k/\k+g (xs.getD i.toNat d)<=134217728:=by
 simp only[rI,Zb,Za] at hp
 obtain⟨h1,h2,h3,h4,h5⟩:=hp
 have hn:i.toNat<xs.length:=by omega
 rw[eZ hn]
 rw[Zn hn] at h5
 have:=gP ok (xs.drop (i.toNat+1))
 simp only[bJ] at h5
 exact⟨h2,h1,by omega⟩
theorem zU{m:α->Int->α}{g:α->Int}(ok:aA4 m g){k i:Int}{xs:List α}(hp:rI g (xs,(k,(i,())))=true)(hlt:i<(xs.length:Int))(d:α)
 {K:Int} (hK:K=k+g (xs.getD i.toNat d)) (he:xs.getD i.toNat d=m (xs.getD i.toNat d) k):
 Rounds (rI g) aEO (aBx m g) (xs,(k,(i,()))) (some (.inl (xs,(K,(wrap .i64 (i+1),()))))):=by
 simp only[rI,Zb,Za] at hp
 obtain⟨h1,h2,h3,h4,h5⟩:=hp
 have hn:i.toNat<xs.length:=by omega
 rw[eZ hn] at *
 have hpos:=ok.pos xs[i.toNat]
 rw[Zn hn] at h5
 simp only[bJ] at h5
 have ei:(i+1).toNat=i.toNat+1:=by omega
 simp only[Rounds,iX (n:=i+1) (by omega) (by omega)]
 refine⟨?_,by simp only[aEO];omega,?_⟩
 . simp only[rI,Zb,Za,ei]
   omega
 . simp only[aBx,ei]
   rw[Zn hn]
   simp only[pF,bJ]
   subst hK
   by_cases hc:xs.drop (i.toNat+1)=pF m g (xs.drop (i.toNat+1)) (k+g xs[i.toNat])
   . rw[bV.2 hc,bV.2 (List.cons.injEq ..▸⟨he,hc⟩),Int.add_assoc]
   . rw[aQ.2 hc,aQ.2 (fun h=>hc (List.cons.inj h).2)];rfl
theorem aBp{m:α->Int->α}{g:α->Int}{k i:Int}{xs:List α}(hp:rI g (xs,(k,(i,())))=true)(hlt:i<(xs.length:Int))(d:α)
 (he:¬xs.getD i.toNat d=m (xs.getD i.toNat d) k):
 Rounds (rI g) aEO (aBx m g) (xs,(k,(i,()))) (some (.inr (.inl (-1,())))):=by
 simp only[rI,Zb,Za] at hp
 obtain⟨h1,h2,h3,h4,h5⟩:=hp
 have hn:i.toNat<xs.length:=by omega
 rw[eZ hn] at he
 simp only[Rounds,aBx]
 rw[Zn hn]
 simp only[pF]
 rw[aQ.2 (fun h=>he (List.cons.inj h).1)]
 rfl
theorem aBE{m:α->Int->α}{g:α->Int}{k i:Int}{xs:List α}(hp:rI g (xs,(k,(i,())))=true)(hlt:¬i<(xs.length:Int)):
 Rounds (rI g) aEO (aBx m g) (xs,(k,(i,()))) (some (.inr (.inr (k,())))):=by
 simp only[rI,Zb,Za] at hp
 obtain⟨h1,h2,h3,h4,h5⟩:=hp
 simp only[Rounds,aBx]
 rw[Zt (by omega)]
 simp only[pF,bJ,Int.add_zero]
 rw[pS]
 rfl
theorem wS{m:α->Int->α}{g:α->Int}(ok:aA4 m g){xs:List α}{k:Int}(h:zZ g xs k=true):rI g (xs,(k,((0:Int),())))=true:=by
 rw[mL] at h
 have:=aBR ok xs
 simp only[rI,Zb,Za,Int.toNat_zero,List.drop_zero]
 omega
theorem rV{m:α->Int->α}{g:α->Int}(xs:List α)(k:Int):
 (match aBx m g (xs,(k,((0:Int),()))) with|.inl y=>some ((),y)|.inr y=>some ((),y))=some ((),(vA (pF m g) (bJ g) xs k,())):=by
 have e:aBx m g (xs,(k,((0:Int),())))=cond (same xs (pF m g xs k)) (.inr (k+bJ g xs,())) (.inl (-1,())):=rfl
 rw[e]
 by_cases h:xs=pF m g xs k
 . rw[bV.2 h,mW h];rfl
 . rw[aQ.2 h,kD h];rfl
def aI3(w:α->Int):List α->Int
 |[]=>0
 |a::r=>w a+aI3 w r
def wL(w:α->Int)(xs:List α):Int:=xs.length+aI3 w xs
theorem aJY{w:α->Int}(h:∀x,0<=w x):(xs:List α)->0<=aI3 w xs
 |[]=>by simp[aI3]
 |a::r=>by
  have:=h a
  have:=aJY h r
  simp only[aI3];omega
theorem aOu{w:α->Int}(h:∀x,0<=w x)(xs:List α):(xs.length:Int)<=wL w xs:=by
 have:=aJY h xs
 simp only[wL];omega
def aNj(p:α->Bool):ToS α->Prop:=fun s=>aLK s/\s.1.all p=true
open Classical in
noncomputable def aA1(p:α->Bool)(s:ToS α):Bool:=decide (aNj p s)
theorem vZ{p:α->Bool}{s:ToS α}:aA1 p s=true↔aNj p s:=by simp[aA1]
theorem aLH{p:α->Bool}{x1:List α}{x2:Int}{x3:List α}(hp:aA1 p (x1,(x2,(x3,())))=true)(hlt:x2<(x1.length:Int))(d:α):
 x2<(x3.length:Int)/\0<=x2/\p (x1.getD x2.toNat d)=true:=by
 rw[vZ] at hp
 obtain⟨⟨h1,h2,h3,h4,h5⟩,h6⟩:=hp
 simp only[] at h1 h2 h3 h4 h5 h6
 refine⟨by omega,h2,?_⟩
 rw[eZ (by omega)]
 exact Zu.1 h6 _ (List.getElem_mem _)
theorem aNf{p:α->Bool}{x1:List α}{x2:Int}{x3:List α}(hp:aA1 p (x1,(x2,(x3,())))=true)(hlt:x2<(x1.length:Int))(d:α){f:α->α}(hf:f=fun _=>x1.getD x2.toNat d):
 Rounds (aA1 p) aKu aKR (x1,(x2,(x3,()))) (some (.inl (x1,(wrap .i64 (x2+1),(x3.modify x2.toNat f,()))))):=by
 rw[vZ] at hp
 have:=(aMn (qP.2 hp.1) hlt d).2.2
 rw[hf]
 simp only[Rounds] at *
 refine⟨?_,this.2.1,this.2.2⟩
 rw[vZ]
 exact⟨qP.1 this.1,hp.2⟩
theorem aNE{p:α->Bool}{x1:List α}{x2:Int}{x3:List α}(hp:aA1 p (x1,(x2,(x3,())))=true)(hlt:¬x2<(x1.length:Int)):
 Rounds (aA1 p) aKu aKR (x1,(x2,(x3,()))) (some (.inr (x3,()))):=by
 rw[vZ] at hp
 exact aNL (qP.2 hp.1) hlt
theorem aLb{p:α->Bool}{x:List α}(h:x.length<=maxLen)(ha:x.all p=true)(d:α):aA1 p (x,((0:Int),(List.replicate (Int.toNat ((x.length:Nat):Int)) d,())))=true:=by
 rw[vZ]
 exact⟨qP.1 (aLx h d),ha⟩
end
def qH(_:Int)(k:Int):Int:=k
def aDE(_:Int)(k:Int):Int:=wrap .u8 k
def bP(_:Int):Int:=1
def oI(_:Int):Int:=1
theorem gQ:aA4 qH bP:=⟨fun _=>Int.le_refl _,fun _ _=>rfl,fun _ _=>rfl⟩
theorem aBo:aA4 aDE oI:=⟨fun _=>Int.le_refl _,fun _ _=>rfl,fun _ _=>rfl⟩
theorem aFC{α:Type}{w:α->Int}(h:∀x,w x=0):(xs:List α)->aI3 w xs=0
 |[]=>rfl
 |a::r=>by simp only[aI3,h,aFC h r];rfl
def aIS(_:Int):Int:=0
theorem aKe(x:Int):0<=aIS x:=Int.le_refl _
noncomputable def eB(a b:List Int):Bool:=same a b
namespace eB
def pre4:=tE (α:=Int)
noncomputable def fn4:=aA8 (α:=Int)
def qD:=aCN (α:=Int)
noncomputable def hJ(x1:(List Int))(x2:(List Int))(x3:Int):Option (((List Int)×((List Int)×(Int×Unit)))⊕((Bool×Unit)⊕Unit)):=
 if(decide (x3<((length x1:Nat):Int)))=true then
 if(decide ((0:Int)<=x3))=true then
 if(decide (x3<((length x1:Nat):Int)))=true then
 if(decide ((0:Int)<=x3))=true then
 if(decide (x3<((length x2:Nat):Int)))=true then
 if(!(decide ((List.getD x1 (Int.toNat x3) (0:Int))=(List.getD x2 (Int.toNat x3) (0:Int)))))=true then
 some (.inr (.inl (false,())))
 else
 some (.inl (x1,(x2,((wrap .i64 (x3+(1:Int))),()))))
 else
 none
 else
 none
 else
 none
 else
 none
 else
 some (.inr (.inr ()))
abbrev wf(x0:(List Int))(x1:(List Int)):Prop:=fV [(.val (.sl 0 (.int .i64)) .f),(.val (.sl 0 (.int .i64)) .f)] (x0,(x1,()))
noncomputable def aR(x0:(List Int))(x1:(List Int)):Option lA:=
 if(!(decide (((length x0:Nat):Int)=((length x1:Nat):Int))))=true then
  some ((),(false,()))
 else
  if(eB.pre4 (x0,(x1,((0:Int),()))))=true then
   letB (eB.fn4 (x0,(x1,((0:Int),())))) fun v1=>
   match v1 with
   |.inl y=>
    some ((),y)
   |.inr y=>
    some ((),(true,()))
  else
   none
theorem yT(x1 x2:List Int)(x3:Int)(hp:pre4 (x1,(x2,(x3,())))=true):Rounds pre4 qD fn4 (x1,(x2,(x3,()))) (hJ x1 x2 x3):=by
 unfold hJ
 by_cases hlt:x3<(x1.length:Int)
 . obtain⟨h1,h2,h3,h4⟩:=vM hp hlt (0:Int)
   simp only[letB,hlt,h1,h2,decide_true,if_true]
   by_cases h:x1.getD x3.toNat (0:Int)=x2.getD x3.toNat (0:Int)
   . rw[if_neg (by simp only[h,decide_true,Bool.not_true,Zj,not_false_eq_true])];exact h3 h
   . rw[if_pos (by simp only[h,decide_false,Bool.not_false])];exact h4 h
 . simp only[hlt,decide_false,Zj,if_false]
   exact zW hp hlt
theorem eq(x0 x1:List Int)(hw:wf x0 x1):aR x0 x1=some ((),(eB x0 x1,())):=by
 have h1:x0.length<=maxLen:=hw.1.1
 unfold aR eB
 by_cases hl:(x0.length:Int)=(x1.length:Int)
 . rw[if_neg (by simp[hl]),if_pos (show pre4 _=true from sQ h1 hl)]
   unfold fn4
   by_cases he:x0=x1
   . rw[vL he,bV.2 he];rfl
   . rw[vR he,aQ.2 he];rfl
 . have:¬x0=x1:=fun h=>hl (by rw[h])
   rw[if_pos (by simp[hl]),aQ.2 this]
end eB
def bQ(xs:List Int)(k:Int):List Int×Int:=(pF qH bP xs k,k+bJ bP xs)
namespace bQ
def pre(xs:List Int)(k:Int):Bool:=zZ bP xs k
def pre2:=sK bP
def fn2:=aDn qH bP
def kX:=aER (α:=Int)
noncomputable def cU(x1:Int)(x2:Int)(x3:(List Int)):Option ((Int×(Int×tH))⊕(Int×tH)):=
 if(decide (x2<((length x3:Nat):Int)))=true then
 if(decide ((0:Int)<=x2))=true then
 if(decide (x2<((length x3:Nat):Int)))=true then
 some (.inl ((wrap .i64 (x1+(1:Int))),((wrap .i64 (x2+(1:Int))),((List.modify x3 (Int.toNat x2) (fun z=>x1)),()))))
 else
 none
 else
 none
 else
 some (.inr (x1,(x3,())))
abbrev wf(x0:(List Int))(x1:Int):Prop:=fV [(.mut (.sl 0 (.int .i64))),(.val (.int .i64) .f)] (x0,(x1,()))
noncomputable def aR(x0:(List Int))(x1:Int):Option (tH×(Int×Unit)):=
 if(bQ.pre2 (x1,((0:Int),(x0,()))))=true then
 letB (bQ.fn2 (x1,((0:Int),(x0,())))) fun v1=>
 some (v1.2,(v1.1,()))
 else
 none
theorem qG(x1 x2:Int)(x3:List Int)(hp:pre2 (x1,(x2,(x3,())))=true):Rounds pre2 kX fn2 (x1,(x2,(x3,()))) (cU x1 x2 x3):=by
 unfold cU
 by_cases hlt:x2<(x3.length:Int)
 . obtain⟨h0,hk,hc,hn⟩:=tD gQ hp hlt (0:Int)
   generalize he:x3.getD x2.toNat (0:Int)=e at hc
   simp only[bP] at hc
   have w0:wrap .i64 (x1+1)=x1+1:=iX (by omega) (by omega)
   simp only[letB,List.length_modify,List.modify_modify_eq,pI hn,Function.comp,hlt,h0,he,decide_true,if_true,w0]
   exact xH gQ hp hlt (0:Int) (by rw[he];simp only[bP]) (by rw[he];rfl)
 . rw[if_neg (by simp[hlt])];exact aAQ hp hlt
theorem eq(x0:List Int)(x1:Int)(_:wf x0 x1)(hp:pre x0 x1=true):aR x0 x1=some (((bQ x0 x1).1,()),((bQ x0 x1).2,())):=by
 unfold aR
 rw[if_pos (show pre2 _=true from uF gQ hp)]
 rfl
end bQ
theorem aD0(xs:List Int)(k:Int):bQ xs k=(pF qH bP xs k,k+bJ bP xs):=rfl
theorem vK{xs:List Int}{k:Int}(h0:0<=k)(h1:k+bJ bP xs<=134217728):bQ.pre xs k=true:=mL.2 ⟨h0,h1⟩
noncomputable def bK(xs:List Int)(k:Int):Int:=vA (pF qH bP) (bJ bP) xs k
namespace bK
def pre(xs:List Int)(k:Int):Bool:=zZ bP xs k
def pre2:=rI bP
noncomputable def fn2:=aBx qH bP
def kX:=aEO (α:=Int)
noncomputable def cU(x1:(List Int))(x2:Int)(x3:Int):Option (((List Int)×eQ)⊕((Int×Unit)⊕(Int×Unit))):=
 if(decide (x3<((length x1:Nat):Int)))=true then
 if(decide ((0:Int)<=x3))=true then
 if(decide (x3<((length x1:Nat):Int)))=true then
 if(!(decide ((List.getD x1 (Int.toNat x3) (0:Int))=x2)))=true then
 some (.inr (.inl ((-1:Int),())))
 else
 some (.inl (x1,((wrap .i64 (x2+(1:Int))),((wrap .i64 (x3+(1:Int))),()))))
 else
 none
 else
 none
 else
 some (.inr (.inr (x2,())))
abbrev wf(x0:(List Int))(x1:Int):Prop:=fV [(.val (.sl 0 (.int .i64)) .f),(.val (.int .i64) .f)] (x0,(x1,()))
noncomputable def aR(x0:(List Int))(x1:Int):Option xS:=
 if(bK.pre2 (x0,(x1,((0:Int),()))))=true then
  letB (bK.fn2 (x0,(x1,((0:Int),())))) fun v1=>
  match v1 with
  |.inl y=>
   some ((),y)
  |.inr y=>
   some ((),y)
 else
  none
theorem qG(x1:List Int)(x2 x3:Int)(hp:pre2 (x1,(x2,(x3,())))=true):Rounds pre2 kX fn2 (x1,(x2,(x3,()))) (cU x1 x2 x3):=by
 unfold cU
 by_cases hlt:x3<(x1.length:Int)
 . obtain⟨h0,hk,hc⟩:=wN gQ hp hlt (0:Int)
   have xX:=aBp (m:=qH) (g:=bP) hp hlt (0:Int)
   have good:=fun K hK=>zU gQ (K:=K) hp hlt (0:Int) hK
   generalize x1.getD x3.toNat (0:Int)=e at *
   simp only[bP] at hc
   have w0:wrap .i64 (x2+1)=x2+1:=iX (by omega) (by omega)
   simp only[letB,hlt,h0,decide_true,if_true,w0]
   by_cases c:e=x2
   case neg=>rw[if_pos (by simp[c])];exact xX c
   rw[if_neg (by simp[c])]
   exact good _ (by simp only[bP]) c
 . rw[if_neg (by simp[hlt])];exact aBE hp hlt
theorem eq(x0:List Int)(x1:Int)(_:wf x0 x1)(hp:pre x0 x1=true):aR x0 x1=some ((),(bK x0 x1,())):=by
 unfold aR
 rw[if_pos (show pre2 _=true from wS gQ hp)]
 exact rV x0 x1
end bK
theorem vE{xs:List Int}{k:Int}(h:xs=pF qH bP xs k):bK xs k=k+bJ bP xs:=mW h
theorem vH{xs:List Int}{k:Int}(h:¬xs=pF qH bP xs k):bK xs k=-1:=kD h
theorem vO{xs:List Int}{k:Int}(h0:0<=k)(h1:k+bJ bP xs<=134217728):bK.pre xs k=true:=mL.2 ⟨h0,h1⟩
noncomputable def jS(a b:List Int):Bool:=same a b
namespace jS
def pre4:=tE (α:=Int)
noncomputable def fn4:=aA8 (α:=Int)
def qD:=aCN (α:=Int)
noncomputable def hJ(x1:(List Int))(x2:(List Int))(x3:Int):Option (((List Int)×((List Int)×(Int×Unit)))⊕((Bool×Unit)⊕Unit)):=
 if(decide (x3<((length x1:Nat):Int)))=true then
 if(decide ((0:Int)<=x3))=true then
 if(decide (x3<((length x1:Nat):Int)))=true then
 if(decide ((0:Int)<=x3))=true then
 if(decide (x3<((length x2:Nat):Int)))=true then
 if(!(decide ((List.getD x1 (Int.toNat x3) (0:Int))=(List.getD x2 (Int.toNat x3) (0:Int)))))=true then
 some (.inr (.inl (false,())))
 else
 some (.inl (x1,(x2,((wrap .i64 (x3+(1:Int))),()))))
 else
 none
 else
 none
 else
 none
 else
 none
 else
 some (.inr (.inr ()))
abbrev wf(x0:(List Int))(x1:(List Int)):Prop:=fV [(.val wQ .f),(.val wQ .f)] (x0,(x1,()))
noncomputable def aR(x0:(List Int))(x1:(List Int)):Option lA:=
 if(!(decide (((length x0:Nat):Int)=((length x1:Nat):Int))))=true then
  some ((),(false,()))
 else
  if(jS.pre4 (x0,(x1,((0:Int),()))))=true then
   letB (jS.fn4 (x0,(x1,((0:Int),())))) fun v1=>
   match v1 with
   |.inl y=>
    some ((),y)
   |.inr y=>
    some ((),(true,()))
  else
   none
theorem yT(x1 x2:List Int)(x3:Int)(hp:pre4 (x1,(x2,(x3,())))=true):Rounds pre4 qD fn4 (x1,(x2,(x3,()))) (hJ x1 x2 x3):=by
 unfold hJ
 by_cases hlt:x3<(x1.length:Int)
 . obtain⟨h1,h2,h3,h4⟩:=vM hp hlt (0:Int)
   simp only[letB,hlt,h1,h2,decide_true,if_true]
   by_cases h:x1.getD x3.toNat (0:Int)=x2.getD x3.toNat (0:Int)
   . rw[if_neg (by simp only[h,decide_true,Bool.not_true,Zj,not_false_eq_true])];exact h3 h
   . rw[if_pos (by simp only[h,decide_false,Bool.not_false])];exact h4 h
 . simp only[hlt,decide_false,Zj,if_false]
   exact zW hp hlt
theorem eq(x0 x1:List Int)(hw:wf x0 x1):aR x0 x1=some ((),(jS x0 x1,())):=by
 have h1:x0.length<=maxLen:=hw.1.1
 unfold aR jS
 by_cases hl:(x0.length:Int)=(x1.length:Int)
 . rw[if_neg (by simp[hl]),if_pos (show pre4 _=true from sQ h1 hl)]
   unfold fn4
   by_cases he:x0=x1
   . rw[vL he,bV.2 he];rfl
   . rw[vR he,aQ.2 he];rfl
 . have:¬x0=x1:=fun h=>hl (by rw[h])
   rw[if_pos (by simp[hl]),aQ.2 this]
end jS
def eP(xs:List Int):List Int:=xs
namespace eP
def pre(xs:List Int):Bool:=dJ xs&&xs.all (fun _=>true)
noncomputable def pre3:=aA1 (α:=Int) (fun _=>true)
def fn3:=aKR (α:=Int)
def mu3:=aKu (α:=Int)
noncomputable def pK(x1:(List Int))(x2:Int)(x3:(List Int)):Option (((List Int)×(Int×tH))⊕tH):=
 if(decide (x2<((length x1:Nat):Int)))=true then
 if(decide ((0:Int)<=x2))=true then
 if(decide (x2<((length x1:Nat):Int)))=true then
 if(decide ((0:Int)<=x2))=true then
 if(decide (x2<((length x3:Nat):Int)))=true then
 some (.inl (x1,((wrap .i64 (x2+(1:Int))),((List.modify x3 (Int.toNat x2) (fun z=>(List.getD x1 (Int.toNat x2) (0:Int)))),()))))
 else
 none
 else
 none
 else
 none
 else
 none
 else
 some (.inr (x3,()))
abbrev wf(x0:(List Int)):Prop:=fV [(.val wQ .f)] (x0,())
noncomputable def aR(x0:(List Int)):Option (Unit×tH):=
 if(decide ((0:Int)<=((length x0:Nat):Int)))=true then
 if(decide (((length x0:Nat):Int)<=((length x0:Nat):Int)))=true then
 if(decide (((length x0:Nat):Int)<=(4294967296:Int)))=true then
 if(eP.pre3 (x0,((0:Int),((List.replicate (Int.toNat ((length x0:Nat):Int)) (0:Int)),()))))=true then
 letB (eP.fn3 (x0,((0:Int),((List.replicate (Int.toNat ((length x0:Nat):Int)) (0:Int)),())))) fun v1=>
 some ((),v1)
 else
 none
 else
 none
 else
 none
 else
 none
theorem ok3(x1:List Int)(x2:Int)(x3:List Int)(hp:pre3 (x1,(x2,(x3,())))=true):Rounds pre3 mu3 fn3 (x1,(x2,(x3,()))) (pK x1 x2 x3):=by
 unfold pK
 by_cases hlt:x2<(x1.length:Int)
 . obtain⟨h1,h2,h3⟩:=aLH hp hlt (0:Int)
   simp only[letB,hlt,h1,h2,h3,decide_true,if_true]
   exact aNf hp hlt (0:Int) rfl
 . rw[if_neg (by simp[hlt])];exact aNE hp hlt
theorem eq(x0:List Int)(hw:wf x0)(hp:pre x0=true):aR x0=some ((),(eP x0,())):=by
 have h1:x0.length<=maxLen:=hw.1.1
 simp only[pre,Zb,cC] at hp
 unfold aR
 rw[if_pos (by simp),if_pos (by simp),if_pos (by simp;omega),if_pos (show pre3 _=true from aLb h1 hp.2 _)]
 rfl
end eP
theorem aIj{xs:List Int}(h:wL aIS xs<=16777216):eP.pre xs=true:=by
 have hl:=aOu aKe xs
 simp only[eP.pre,Zb,cC]
 exact⟨by omega,by simp⟩
def eH(xs:List Int)(k:Int):List Int×Int:=(pF aDE oI xs k,k+bJ oI xs)
namespace eH
def pre(xs:List Int)(k:Int):Bool:=zZ oI xs k
def pre2:=sK oI
def fn2:=aDn aDE oI
def kX:=aER (α:=Int)
noncomputable def cU(x1:Int)(x2:Int)(x3:(List Int)):Option ((Int×(Int×tH))⊕(Int×tH)):=
 if(decide (x2<((length x3:Nat):Int)))=true then
 if(decide ((0:Int)<=x2))=true then
 if(decide (x2<((length x3:Nat):Int)))=true then
 some (.inl ((wrap .i64 (x1+(1:Int))),((wrap .i64 (x2+(1:Int))),((List.modify x3 (Int.toNat x2) (fun z=>(wrap .u8 x1))),()))))
 else
 none
 else
 none
 else
 some (.inr (x1,(x3,())))
abbrev wf(x0:(List Int))(x1:Int):Prop:=fV [(.mut wQ),(.val (.int .i64) .f)] (x0,(x1,()))
noncomputable def aR(x0:(List Int))(x1:Int):Option (tH×(Int×Unit)):=
 if(eH.pre2 (x1,((0:Int),(x0,()))))=true then
 letB (eH.fn2 (x1,((0:Int),(x0,())))) fun v1=>
 some (v1.2,(v1.1,()))
 else
 none
theorem qG(x1 x2:Int)(x3:List Int)(hp:pre2 (x1,(x2,(x3,())))=true):Rounds pre2 kX fn2 (x1,(x2,(x3,()))) (cU x1 x2 x3):=by
 unfold cU
 by_cases hlt:x2<(x3.length:Int)
 . obtain⟨h0,hk,hc,hn⟩:=tD aBo hp hlt (0:Int)
   generalize he:x3.getD x2.toNat (0:Int)=e at hc
   simp only[oI] at hc
   have w0:wrap .i64 (x1+1)=x1+1:=iX (by omega) (by omega)
   simp only[letB,List.length_modify,List.modify_modify_eq,pI hn,Function.comp,hlt,h0,he,decide_true,if_true,w0]
   exact xH aBo hp hlt (0:Int) (by rw[he];simp only[oI]) (by rw[he];rfl)
 . rw[if_neg (by simp[hlt])];exact aAQ hp hlt
theorem eq(x0:List Int)(x1:Int)(_:wf x0 x1)(hp:pre x0 x1=true):aR x0 x1=some (((eH x0 x1).1,()),((eH x0 x1).2,())):=by
 unfold aR
 rw[if_pos (show pre2 _=true from uF aBo hp)]
 rfl
end eH
theorem aGd(xs:List Int)(k:Int):eH xs k=(pF aDE oI xs k,k+bJ oI xs):=rfl
theorem aFt{xs:List Int}{k:Int}(h0:0<=k)(h1:k+bJ oI xs<=134217728):eH.pre xs k=true:=mL.2 ⟨h0,h1⟩
noncomputable def mZ(a b:Cmd):Bool:=same a b
namespace mZ
abbrev wf(x0:Cmd)(x1:Cmd):Prop:=fV [(.val aKK .f),(.val aKK .f)] (x0,(x1,()))
noncomputable def aR(x0:Cmd)(x1:Cmd):Option lA:=
 if(!(decide (x0.1=x1.1)))=true then
 some ((),(false,()))
 else
 if(!(decide (x0.2.1=x1.2.1)))=true then
 some ((),(false,()))
 else
 if(!(decide (x0.2.2.1=x1.2.2.1)))=true then
 some ((),(false,()))
 else
 if(!(decide (x0.2.2.2.1=x1.2.2.2.1)))=true then
 some ((),(false,()))
 else
 if(!(decide (x0.2.2.2.2.1=x1.2.2.2.2.1)))=true then
 some ((),(false,()))
 else
 if(!(decide (x0.2.2.2.2.2.1=x1.2.2.2.2.2.1)))=true then
 some ((),(false,()))
 else
 if(!(x0.2.2.2.2.2.2.1==x1.2.2.2.2.2.2.1))=true then
 some ((),(false,()))
 else
 if(!(x0.2.2.2.2.2.2.2.1==x1.2.2.2.2.2.2.2.1))=true then
 some ((),(false,()))
 else
 some ((),(true,()))
theorem eq(x0 x1:Cmd)(_:wf x0 x1):aR x0 x1=some ((),(mZ x0 x1,())):=by
 unfold aR mZ
 try simp only[letB]
 by_cases c0:x0.1=x1.1
 case neg=>rw[if_pos (by simp[c0]),aQ.2 (fun h=>c0 (congrArg (fun z:Cmd=>z.1) h))]
 rw[if_neg (by simp[c0])]
 by_cases c1:x0.2.1=x1.2.1
 case neg=>rw[if_pos (by simp[c1]),aQ.2 (fun h=>c1 (congrArg (fun z:Cmd=>z.2.1) h))]
 rw[if_neg (by simp[c1])]
 by_cases c2:x0.2.2.1=x1.2.2.1
 case neg=>rw[if_pos (by simp[c2]),aQ.2 (fun h=>c2 (congrArg (fun z:Cmd=>z.2.2.1) h))]
 rw[if_neg (by simp[c2])]
 by_cases c3:x0.2.2.2.1=x1.2.2.2.1
 case neg=>rw[if_pos (by simp[c3]),aQ.2 (fun h=>c3 (congrArg (fun z:Cmd=>z.2.2.2.1) h))]
 rw[if_neg (by simp[c3])]
 by_cases c4:x0.2.2.2.2.1=x1.2.2.2.2.1
 case neg=>rw[if_pos (by simp[c4]),aQ.2 (fun h=>c4 (congrArg (fun z:Cmd=>z.2.2.2.2.1) h))]
 rw[if_neg (by simp[c4])]
 by_cases c5:x0.2.2.2.2.2.1=x1.2.2.2.2.2.1
 case neg=>rw[if_pos (by simp[c5]),aQ.2 (fun h=>c5 (congrArg (fun z:Cmd=>z.2.2.2.2.2.1) h))]
 rw[if_neg (by simp[c5])]
 by_cases c6:x0.2.2.2.2.2.2.1=x1.2.2.2.2.2.2.1
 case neg=>rw[if_pos (by simp[c6]),aQ.2 (fun h=>c6 (congrArg (fun z:Cmd=>z.2.2.2.2.2.2.1) h))]
 rw[if_neg (by simp[c6])]
 by_cases c7:x0.2.2.2.2.2.2.2.1=x1.2.2.2.2.2.2.2.1
 case neg=>rw[if_pos (by simp[c7]),aQ.2 (fun h=>c7 (congrArg (fun z:Cmd=>z.2.2.2.2.2.2.2.1) h))]
 rw[if_neg (by simp[c7])]
 rw[bV.2 (Prod.ext c0 (Prod.ext c1 (Prod.ext c2 (Prod.ext c3 (Prod.ext c4 (Prod.ext c5 (Prod.ext c6 (Prod.ext c7 rfl))))))))]
end mZ
noncomputable def kK(a b:aL):Bool:=same a b
namespace kK
abbrev wf(x0:aL)(x1:aL):Prop:=fV [(.val zk2 .f),(.val zk2 .f)] (x0,(x1,()))
noncomputable def aR(x0:aL)(x1:aL):Option lA:=
 if(!(decide (x0.1=x1.1)))=true then
 some ((),(false,()))
 else
 letB (mZ x0.2.1 x1.2.1) fun v1=>
 if(!v1)=true then
 some ((),(false,()))
 else
 some ((),(true,()))
theorem eq(x0 x1:aL)(_:wf x0 x1):aR x0 x1=some ((),(kK x0 x1,())):=by
 unfold aR kK
 try simp only[letB]
 by_cases c0:x0.1=x1.1
 case neg=>rw[if_pos (by simp[c0]),aQ.2 (fun h=>c0 (congrArg (fun z:aL=>z.1) h))]
 rw[if_neg (by simp[c0])]
 by_cases c1:x0.2.1=x1.2.1
 case neg=>rw[if_pos (by rw[mZ,aQ.2 c1];rfl),aQ.2 (fun h=>c1 (congrArg (fun z:aL=>z.2.1) h))]
 rw[if_neg (by rw[mZ,bV.2 c1];simp)]
 rw[bV.2 (Prod.ext c0 (Prod.ext c1 rfl))]
end kK
noncomputable def hZ(a b:List aL):Bool:=same a b
namespace hZ
def pre4:=tE (α:=aL)
noncomputable def fn4:=aA8 (α:=aL)
def qD:=aCN (α:=aL)
noncomputable def hJ(x1:(List aL))(x2:(List aL))(x3:Int):Option (((List aL)×((List aL)×(Int×Unit)))⊕((Bool×Unit)⊕Unit)):=
 if(decide (x3<((length x1:Nat):Int)))=true then
 if(decide ((0:Int)<=x3))=true then
 if(decide (x3<((length x1:Nat):Int)))=true then
 if(decide ((0:Int)<=x3))=true then
 if(decide (x3<((length x2:Nat):Int)))=true then
 letB (kK (List.getD x1 (Int.toNat x3) wX) (List.getD x2 (Int.toNat x3) wX)) fun v1=>
 if(!v1)=true then
 some (.inr (.inl (false,())))
 else
 some (.inl (x1,(x2,((wrap .i64 (x3+(1:Int))),()))))
 else
 none
 else
 none
 else
 none
 else
 none
 else
 some (.inr (.inr ()))
abbrev wf(x0:(List aL))(x1:(List aL)):Prop:=fV [(.val (.sl 0 zk2) .f),(.val (.sl 0 zk2) .f)] (x0,(x1,()))
noncomputable def aR(x0:(List aL))(x1:(List aL)):Option lA:=
 if(!(decide (((length x0:Nat):Int)=((length x1:Nat):Int))))=true then
  some ((),(false,()))
 else
  if(hZ.pre4 (x0,(x1,((0:Int),()))))=true then
   letB (hZ.fn4 (x0,(x1,((0:Int),())))) fun v1=>
   match v1 with
   |.inl y=>
    some ((),y)
   |.inr y=>
    some ((),(true,()))
  else
   none
theorem yT(x1 x2:List aL)(x3:Int)(hp:pre4 (x1,(x2,(x3,())))=true):Rounds pre4 qD fn4 (x1,(x2,(x3,()))) (hJ x1 x2 x3):=by
 unfold hJ
 by_cases hlt:x3<(x1.length:Int)
 . obtain⟨h1,h2,h3,h4⟩:=vM hp hlt wX
   simp only[letB,hlt,h1,h2,decide_true,if_true]
   by_cases h:x1.getD x3.toNat wX=x2.getD x3.toNat wX
   . rw[if_neg (by rw[kK,bV.2 h];simp)];exact h3 h
   . rw[if_pos (by rw[kK,aQ.2 h];rfl)];exact h4 h
 . simp only[hlt,decide_false,Zj,if_false]
   exact zW hp hlt
theorem eq(x0 x1:List aL)(hw:wf x0 x1):aR x0 x1=some ((),(hZ x0 x1,())):=by
 have h1:x0.length<=maxLen:=hw.1.1
 unfold aR hZ
 by_cases hl:(x0.length:Int)=(x1.length:Int)
 . rw[if_neg (by simp[hl]),if_pos (show pre4 _=true from sQ h1 hl)]
   unfold fn4
   by_cases he:x0=x1
   . rw[vL he,bV.2 he];rfl
   . rw[vR he,aQ.2 he];rfl
 . have:¬x0=x1:=fun h=>hl (by rw[h])
   rw[if_pos (by simp[hl]),aQ.2 this]
end hZ
def wA(_:aL)(k:Int):aL:=mE k
def lL(_:aL):Int:=9
theorem uI:aA4 wA lL:=⟨fun _=>by simp only[lL];decide,fun _ _=>rfl,fun _ _=>rfl⟩
theorem aB7:(xs:List aL)->(k:Int)->pF wA lL xs k=qL xs.length k
 |[],_=>rfl
 |a::r,k=>by
  simp only[pF,Zg,qL,aB7 r]
  rw[show k+lL a=k+1+1+1+1+1+1+1+1+1 by simp only[lL];omega]
  rfl
theorem wH:(xs:List aL)->bJ lL xs=9*xs.length
 |[]=>rfl
 |a::r=>by simp only[bJ,lL,wH r,Zg];omega
theorem aAz{xs:List aL}{k:Int}(h0:0<=k)(h1:k+bJ lL xs<=134217728):cB.pre xs k=true:=by
 rw[wH] at h1
 simp only[cB.pre,Zb,Za,cC];omega
theorem aBn(xs:List aL)(k:Int):cX xs k=vA (pF wA lL) (bJ lL) xs k:=by
 unfold cX
 by_cases h:xs=pF wA lL xs k
 . rw[mW h,wH,if_pos (by rw[<-aB7];exact h)]
 . rw[kD h,if_neg (by rw[<-aB7];exact h)]
theorem aEA{xs:List aL}{k:Int}(h:xs=pF wA lL xs k):cX xs k=k+bJ lL xs:=by rw[aBn];exact mW h
theorem aEH{xs:List aL}{k:Int}(h:¬xs=pF wA lL xs k):cX xs k=-1:=by rw[aBn];exact kD h
def rT(x:iQ)(k:Int):iQ:=(x.1,(x.2.1,(pF wA lL x.2.2.1 (k),())))
def iV(x:iQ):Int:=bJ lL x.2.2.1
theorem aAC(x:iQ):0<=iV x:=by
 have n2:=gP uI x.2.2.1
 simp only[iV];omega
theorem aC4(x:iQ)(k:Int):iV (rT x k)=iV x:=by simp only[iV,rT,lH uI]
theorem aGQ(x:iQ)(k:Int):rT (rT x k) k=rT x k:=by simp only[rT,lH uI,uB uI]
theorem aJi(x:iQ)(k:Int):gW x k=(rT x k,k+iV x):=by
 simp only[rT,iV,aB7,wH];rfl
theorem aH4{x:iQ}{k:Int}(h0:0<=k)(h1:k+iV x<=134217728):gW.pre x k=true:=aAz h0 h1
theorem aGT{x:iQ}{k:Int}(h0:0<=k)(h1:k+iV x<=134217728):fA.pre x k=true:=aAz h0 h1
theorem aHm{x:iQ}{k:Int}(h:x=rT x k)(h0:0<=k):fA x k=k+iV x:=by
 have h2:=aEA (xs:=x.2.2.1) (k:=k) (congrArg (fun z:iQ=>z.2.2.1) h)
 have h3:=gP uI x.2.2.1
 unfold fA
 simp only[h2,iV]
 rw[if_neg (by omega)]
theorem aIf{x:iQ}{k:Int}(h:¬x=rT x k):fA x k=-1:=by
 have h2:=aEH (xs:=x.2.2.1) (k:=k) (fun g=>h (Prod.ext rfl (Prod.ext rfl (Prod.ext g rfl))))
 unfold fA
 simp only[h2]
 rfl
noncomputable def nB(a b:iQ):Bool:=same a b
namespace nB
abbrev wf(x0:iQ)(x1:iQ):Prop:=fV [(.val aAj .f),(.val aAj .f)] (x0,(x1,()))
noncomputable def aR(x0:iQ)(x1:iQ):Option lA:=
 if(!(decide (x0.1=x1.1)))=true then
 some ((),(false,()))
 else
 if(!(decide (x0.2.1=x1.2.1)))=true then
 some ((),(false,()))
 else
 letB (hZ x0.2.2.1 x1.2.2.1) fun v1=>
 if(!v1)=true then
 some ((),(false,()))
 else
 some ((),(true,()))
theorem eq(x0 x1:iQ)(_:wf x0 x1):aR x0 x1=some ((),(nB x0 x1,())):=by
 unfold aR nB
 try simp only[letB]
 by_cases c0:x0.1=x1.1
 case neg=>rw[if_pos (by simp[c0]),aQ.2 (fun h=>c0 (congrArg (fun z:iQ=>z.1) h))]
 rw[if_neg (by simp[c0])]
 by_cases c1:x0.2.1=x1.2.1
 case neg=>rw[if_pos (by simp[c1]),aQ.2 (fun h=>c1 (congrArg (fun z:iQ=>z.2.1) h))]
 rw[if_neg (by simp[c1])]
 by_cases c2:x0.2.2.1=x1.2.2.1
 case neg=>rw[if_pos (by rw[hZ,aQ.2 c2];rfl),aQ.2 (fun h=>c2 (congrArg (fun z:iQ=>z.2.2.1) h))]
 rw[if_neg (by rw[hZ,bV.2 c2];simp)]
 rw[bV.2 (Prod.ext c0 (Prod.ext c1 (Prod.ext c2 rfl)))]
end nB
def sL(_:eQ)(k:Int):eQ:=(k,(k+1,()))
def gG(_:eQ):Int:=2
theorem nA:aA4 sL gG:=⟨fun _=>by simp only[gG];decide,fun _ _=>rfl,fun _ _=>rfl⟩
noncomputable def lU(a b:eQ):Bool:=same a b
namespace lU
abbrev wf(x0:eQ)(x1:eQ):Prop:=fV [(.val zk9 .f),(.val zk9 .f)] (x0,(x1,()))
noncomputable def aR(x0:eQ)(x1:eQ):Option lA:=
 if(!(decide (x0.1=x1.1)))=true then
 some ((),(false,()))
 else
 if(!(decide (x0.2.1=x1.2.1)))=true then
 some ((),(false,()))
 else
 some ((),(true,()))
theorem eq(x0 x1:eQ)(_:wf x0 x1):aR x0 x1=some ((),(lU x0 x1,())):=by
 unfold aR lU
 try simp only[letB]
 by_cases c0:x0.1=x1.1
 case neg=>rw[if_pos (by simp[c0]),aQ.2 (fun h=>c0 (congrArg (fun z:eQ=>z.1) h))]
 rw[if_neg (by simp[c0])]
 by_cases c1:x0.2.1=x1.2.1
 case neg=>rw[if_pos (by simp[c1]),aQ.2 (fun h=>c1 (congrArg (fun z:eQ=>z.2.1) h))]
 rw[if_neg (by simp[c1])]
 rw[bV.2 (Prod.ext c0 (Prod.ext c1 rfl))]
end lU
noncomputable def jB(a b:List eQ):Bool:=same a b
namespace jB
def pre4:=tE (α:=eQ)
noncomputable def fn4:=aA8 (α:=eQ)
def qD:=aCN (α:=eQ)
noncomputable def hJ(x1:(List eQ))(x2:(List eQ))(x3:Int):Option (((List eQ)×((List eQ)×(Int×Unit)))⊕((Bool×Unit)⊕Unit)):=
 if(decide (x3<((length x1:Nat):Int)))=true then
 if(decide ((0:Int)<=x3))=true then
 if(decide (x3<((length x1:Nat):Int)))=true then
 if(decide ((0:Int)<=x3))=true then
 if(decide (x3<((length x2:Nat):Int)))=true then
 letB (lU (List.getD x1 (Int.toNat x3) nT) (List.getD x2 (Int.toNat x3) nT)) fun v1=>
 if(!v1)=true then
 some (.inr (.inl (false,())))
 else
 some (.inl (x1,(x2,((wrap .i64 (x3+(1:Int))),()))))
 else
 none
 else
 none
 else
 none
 else
 none
 else
 some (.inr (.inr ()))
abbrev wf(x0:(List eQ))(x1:(List eQ)):Prop:=fV [(.val (.sl 0 zk9) .f),(.val (.sl 0 zk9) .f)] (x0,(x1,()))
noncomputable def aR(x0:(List eQ))(x1:(List eQ)):Option lA:=
 if(!(decide (((length x0:Nat):Int)=((length x1:Nat):Int))))=true then
  some ((),(false,()))
 else
  if(jB.pre4 (x0,(x1,((0:Int),()))))=true then
   letB (jB.fn4 (x0,(x1,((0:Int),())))) fun v1=>
   match v1 with
   |.inl y=>
    some ((),y)
   |.inr y=>
    some ((),(true,()))
  else
   none
theorem yT(x1 x2:List eQ)(x3:Int)(hp:pre4 (x1,(x2,(x3,())))=true):Rounds pre4 qD fn4 (x1,(x2,(x3,()))) (hJ x1 x2 x3):=by
 unfold hJ
 by_cases hlt:x3<(x1.length:Int)
 . obtain⟨h1,h2,h3,h4⟩:=vM hp hlt nT
   simp only[letB,hlt,h1,h2,decide_true,if_true]
   by_cases h:x1.getD x3.toNat nT=x2.getD x3.toNat nT
   . rw[if_neg (by rw[lU,bV.2 h];simp)];exact h3 h
   . rw[if_pos (by rw[lU,aQ.2 h];rfl)];exact h4 h
 . simp only[hlt,decide_false,Zj,if_false]
   exact zW hp hlt
theorem eq(x0 x1:List eQ)(hw:wf x0 x1):aR x0 x1=some ((),(jB x0 x1,())):=by
 have h1:x0.length<=maxLen:=hw.1.1
 unfold aR jB
 by_cases hl:(x0.length:Int)=(x1.length:Int)
 . rw[if_neg (by simp[hl]),if_pos (show pre4 _=true from sQ h1 hl)]
   unfold fn4
   by_cases he:x0=x1
   . rw[vL he,bV.2 he];rfl
   . rw[vR he,aQ.2 he];rfl
 . have:¬x0=x1:=fun h=>hl (by rw[h])
   rw[if_pos (by simp[hl]),aQ.2 this]
end jB
def eJ(xs:List eQ)(k:Int):List eQ×Int:=(pF sL gG xs k,k+bJ gG xs)
namespace eJ
def pre(xs:List eQ)(k:Int):Bool:=zZ gG xs k
def pre2:=sK gG
def fn2:=aDn sL gG
def kX:=aER (α:=eQ)
noncomputable def cU(x1:Int)(x2:Int)(x3:(List eQ)):Option ((Int×(Int×((List eQ)×Unit)))⊕(Int×((List eQ)×Unit))):=
 if(decide (x2<((length x3:Nat):Int)))=true then
 if(decide ((0:Int)<=x2))=true then
 if(decide (x2<((length x3:Nat):Int)))=true then
 if(decide ((0:Int)<=x2))=true then
 if(decide (x2<((length (List.modify x3 (Int.toNat x2) (fun z=>(x1,z.2))):Nat):Int)))=true then
 some (.inl ((wrap .i64 ((wrap .i64 (x1+(1:Int)))+(1:Int))),((wrap .i64 (x2+(1:Int))),((List.modify (List.modify x3 (Int.toNat x2) (fun z=>(x1,z.2))) (Int.toNat x2) (fun z=>(z.1,((wrap .i64 (x1+(1:Int))),z.2.2)))),()))))
 else
 none
 else
 none
 else
 none
 else
 none
 else
 some (.inr (x1,(x3,())))
abbrev wf(x0:(List eQ))(x1:Int):Prop:=fV [(.mut (.sl 0 zk9)),(.val (.int .i64) .f)] (x0,(x1,()))
noncomputable def aR(x0:(List eQ))(x1:Int):Option (((List eQ)×Unit)×(Int×Unit)):=
 if(eJ.pre2 (x1,((0:Int),(x0,()))))=true then
 letB (eJ.fn2 (x1,((0:Int),(x0,())))) fun v1=>
 some (v1.2,(v1.1,()))
 else
 none
theorem qG(x1 x2:Int)(x3:List eQ)(hp:pre2 (x1,(x2,(x3,())))=true):Rounds pre2 kX fn2 (x1,(x2,(x3,()))) (cU x1 x2 x3):=by
 unfold cU
 by_cases hlt:x2<(x3.length:Int)
 . obtain⟨h0,hk,hc,hn⟩:=tD nA hp hlt nT
   generalize he:x3.getD x2.toNat nT=e at hc
   simp only[gG] at hc
   have w0:wrap .i64 (x1+1)=x1+1:=iX (by omega) (by omega)
   have w1:wrap .i64 (x1+1+1)=x1+1+1:=iX (by omega) (by omega)
   simp only[letB,List.length_modify,List.modify_modify_eq,pI hn,Function.comp,hlt,h0,he,decide_true,if_true,w0,w1]
   exact xH nA hp hlt nT (by rw[he];simp only[gG];omega) (by rw[he];rfl)
 . rw[if_neg (by simp[hlt])];exact aAQ hp hlt
theorem eq(x0:List eQ)(x1:Int)(_:wf x0 x1)(hp:pre x0 x1=true):aR x0 x1=some (((eJ x0 x1).1,()),((eJ x0 x1).2,())):=by
 unfold aR
 rw[if_pos (show pre2 _=true from uF nA hp)]
 rfl
end eJ
theorem aGm(xs:List eQ)(k:Int):eJ xs k=(pF sL gG xs k,k+bJ gG xs):=rfl
theorem aFl{xs:List eQ}{k:Int}(h0:0<=k)(h1:k+bJ gG xs<=134217728):eJ.pre xs k=true:=mL.2 ⟨h0,h1⟩
noncomputable def dU(xs:List eQ)(k:Int):Int:=vA (pF sL gG) (bJ gG) xs k
namespace dU
def pre(xs:List eQ)(k:Int):Bool:=zZ gG xs k
def pre2:=rI gG
noncomputable def fn2:=aBx sL gG
def kX:=aEO (α:=eQ)
noncomputable def cU(x1:(List eQ))(x2:Int)(x3:Int):Option (((List eQ)×eQ)⊕((Int×Unit)⊕(Int×Unit))):=
 if(decide (x3<((length x1:Nat):Int)))=true then
 if(decide ((0:Int)<=x3))=true then
 if(decide (x3<((length x1:Nat):Int)))=true then
 if(!(decide ((List.getD x1 (Int.toNat x3) nT).1=x2)))=true then
 some (.inr (.inl ((-1:Int),())))
 else
 if(decide ((0:Int)<=x3))=true then
 if(decide (x3<((length x1:Nat):Int)))=true then
 if(!(decide ((List.getD x1 (Int.toNat x3) nT).2.1=(wrap .i64 (x2+(1:Int))))))=true then
 some (.inr (.inl ((-1:Int),())))
 else
 some (.inl (x1,((wrap .i64 ((wrap .i64 (x2+(1:Int)))+(1:Int))),((wrap .i64 (x3+(1:Int))),()))))
 else
 none
 else
 none
 else
 none
 else
 none
 else
 some (.inr (.inr (x2,())))
abbrev wf(x0:(List eQ))(x1:Int):Prop:=fV [(.val (.sl 0 zk9) .f),(.val (.int .i64) .f)] (x0,(x1,()))
noncomputable def aR(x0:(List eQ))(x1:Int):Option xS:=
 if(dU.pre2 (x0,(x1,((0:Int),()))))=true then
  letB (dU.fn2 (x0,(x1,((0:Int),())))) fun v1=>
  match v1 with
  |.inl y=>
   some ((),y)
  |.inr y=>
   some ((),y)
 else
  none
theorem qG(x1:List eQ)(x2 x3:Int)(hp:pre2 (x1,(x2,(x3,())))=true):Rounds pre2 kX fn2 (x1,(x2,(x3,()))) (cU x1 x2 x3):=by
 unfold cU
 by_cases hlt:x3<(x1.length:Int)
 . obtain⟨h0,hk,hc⟩:=wN nA hp hlt nT
   have xX:=aBp (m:=sL) (g:=gG) hp hlt nT
   have good:=fun K hK=>zU nA (K:=K) hp hlt nT hK
   generalize x1.getD x3.toNat nT=e at *
   simp only[gG] at hc
   have w0:wrap .i64 (x2+1)=x2+1:=iX (by omega) (by omega)
   have w1:wrap .i64 (x2+1+1)=x2+1+1:=iX (by omega) (by omega)
   simp only[letB,hlt,h0,decide_true,if_true,w0,w1]
   by_cases c0:e.1=x2
   case neg=>rw[if_pos (by simp[c0])];exact xX fun h=>c0 (congrArg (fun z:eQ=>z.1) h)
   rw[if_neg (by simp[c0])]
   by_cases c1:e.2.1=x2+1
   case neg=>rw[if_pos (by simp[c1])];exact xX fun h=>c1 (congrArg (fun z:eQ=>z.2.1) h)
   rw[if_neg (by simp[c1])]
   exact good _ (by simp only[gG];omega) (Prod.ext c0 (Prod.ext c1 rfl))
 . rw[if_neg (by simp[hlt])];exact aBE hp hlt
theorem eq(x0:List eQ)(x1:Int)(_:wf x0 x1)(hp:pre x0 x1=true):aR x0 x1=some ((),(dU x0 x1,())):=by
 unfold aR
 rw[if_pos (show pre2 _=true from wS nA hp)]
 exact rV x0 x1
end dU
theorem aFp{xs:List eQ}{k:Int}(h:xs=pF sL gG xs k):dU xs k=k+bJ gG xs:=mW h
theorem aFj{xs:List eQ}{k:Int}(h:¬xs=pF sL gG xs k):dU xs k=-1:=kD h
theorem aF8{xs:List eQ}{k:Int}(h0:0<=k)(h1:k+bJ gG xs<=134217728):dU.pre xs k=true:=mL.2 ⟨h0,h1⟩
def sJ(_:eS)(k:Int):eS:=(k,(aE (k+1),(aE (k+1+1),(k+1+1+1,(k+1+1+1+1,())))))
def gI(_:eS):Int:=5
theorem nG:aA4 sJ gI:=⟨fun _=>by simp only[gI];decide,fun _ _=>rfl,fun _ _=>rfl⟩
noncomputable def lN(a b:eS):Bool:=same a b
namespace lN
abbrev wf(x0:eS)(x1:eS):Prop:=fV [(.val aHB .f),(.val aHB .f)] (x0,(x1,()))
noncomputable def aR(x0:eS)(x1:eS):Option lA:=
 if(!(decide (x0.1=x1.1)))=true then
 some ((),(false,()))
 else
 if(!(x0.2.1==x1.2.1))=true then
 some ((),(false,()))
 else
 if(!(x0.2.2.1==x1.2.2.1))=true then
 some ((),(false,()))
 else
 if(!(decide (x0.2.2.2.1=x1.2.2.2.1)))=true then
 some ((),(false,()))
 else
 if(!(decide (x0.2.2.2.2.1=x1.2.2.2.2.1)))=true then
 some ((),(false,()))
 else
 some ((),(true,()))
theorem eq(x0 x1:eS)(_:wf x0 x1):aR x0 x1=some ((),(lN x0 x1,())):=by
 unfold aR lN
 try simp only[letB]
 by_cases c0:x0.1=x1.1
 case neg=>rw[if_pos (by simp[c0]),aQ.2 (fun h=>c0 (congrArg (fun z:eS=>z.1) h))]
 rw[if_neg (by simp[c0])]
 by_cases c1:x0.2.1=x1.2.1
 case neg=>rw[if_pos (by simp[c1]),aQ.2 (fun h=>c1 (congrArg (fun z:eS=>z.2.1) h))]
 rw[if_neg (by simp[c1])]
 by_cases c2:x0.2.2.1=x1.2.2.1
 case neg=>rw[if_pos (by simp[c2]),aQ.2 (fun h=>c2 (congrArg (fun z:eS=>z.2.2.1) h))]
 rw[if_neg (by simp[c2])]
 by_cases c3:x0.2.2.2.1=x1.2.2.2.1
 case neg=>rw[if_pos (by simp[c3]),aQ.2 (fun h=>c3 (congrArg (fun z:eS=>z.2.2.2.1) h))]
 rw[if_neg (by simp[c3])]
 by_cases c4:x0.2.2.2.2.1=x1.2.2.2.2.1
 case neg=>rw[if_pos (by simp[c4]),aQ.2 (fun h=>c4 (congrArg (fun z:eS=>z.2.2.2.2.1) h))]
 rw[if_neg (by simp[c4])]
 rw[bV.2 (Prod.ext c0 (Prod.ext c1 (Prod.ext c2 (Prod.ext c3 (Prod.ext c4 rfl)))))]
end lN
noncomputable def jA(a b:List eS):Bool:=same a b
namespace jA
def pre4:=tE (α:=eS)
noncomputable def fn4:=aA8 (α:=eS)
def qD:=aCN (α:=eS)
noncomputable def hJ(x1:(List eS))(x2:(List eS))(x3:Int):Option (((List eS)×((List eS)×(Int×Unit)))⊕((Bool×Unit)⊕Unit)):=
 if(decide (x3<((length x1:Nat):Int)))=true then
 if(decide ((0:Int)<=x3))=true then
 if(decide (x3<((length x1:Nat):Int)))=true then
 if(decide ((0:Int)<=x3))=true then
 if(decide (x3<((length x2:Nat):Int)))=true then
 letB (lN (List.getD x1 (Int.toNat x3) wT) (List.getD x2 (Int.toNat x3) wT)) fun v1=>
 if(!v1)=true then
 some (.inr (.inl (false,())))
 else
 some (.inl (x1,(x2,((wrap .i64 (x3+(1:Int))),()))))
 else
 none
 else
 none
 else
 none
 else
 none
 else
 some (.inr (.inr ()))
abbrev wf(x0:(List eS))(x1:(List eS)):Prop:=fV [(.val (.sl 0 aHB) .f),(.val (.sl 0 aHB) .f)] (x0,(x1,()))
noncomputable def aR(x0:(List eS))(x1:(List eS)):Option lA:=
 if(!(decide (((length x0:Nat):Int)=((length x1:Nat):Int))))=true then
  some ((),(false,()))
 else
  if(jA.pre4 (x0,(x1,((0:Int),()))))=true then
   letB (jA.fn4 (x0,(x1,((0:Int),())))) fun v1=>
   match v1 with
   |.inl y=>
    some ((),y)
   |.inr y=>
    some ((),(true,()))
  else
   none
theorem yT(x1 x2:List eS)(x3:Int)(hp:pre4 (x1,(x2,(x3,())))=true):Rounds pre4 qD fn4 (x1,(x2,(x3,()))) (hJ x1 x2 x3):=by
 unfold hJ
 by_cases hlt:x3<(x1.length:Int)
 . obtain⟨h1,h2,h3,h4⟩:=vM hp hlt wT
   simp only[letB,hlt,h1,h2,decide_true,if_true]
   by_cases h:x1.getD x3.toNat wT=x2.getD x3.toNat wT
   . rw[if_neg (by rw[lN,bV.2 h];simp)];exact h3 h
   . rw[if_pos (by rw[lN,aQ.2 h];rfl)];exact h4 h
 . simp only[hlt,decide_false,Zj,if_false]
   exact zW hp hlt
theorem eq(x0 x1:List eS)(hw:wf x0 x1):aR x0 x1=some ((),(jA x0 x1,())):=by
 have h1:x0.length<=maxLen:=hw.1.1
 unfold aR jA
 by_cases hl:(x0.length:Int)=(x1.length:Int)
 . rw[if_neg (by simp[hl]),if_pos (show pre4 _=true from sQ h1 hl)]
   unfold fn4
   by_cases he:x0=x1
   . rw[vL he,bV.2 he];rfl
   . rw[vR he,aQ.2 he];rfl
 . have:¬x0=x1:=fun h=>hl (by rw[h])
   rw[if_pos (by simp[hl]),aQ.2 this]
end jA
def eI(xs:List eS)(k:Int):List eS×Int:=(pF sJ gI xs k,k+bJ gI xs)
end Go.Aw.Pl
