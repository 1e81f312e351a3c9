import Derived.Test.YthkbmmjpjcehpaaGreatAxM
namespace Go.Aw.Pl
open Go.IntKind (wrap)
open List (length)
open Go Go.Aw
set_option linter.unusedVariables false
set_option linter.unusedSimpArgs false
set_option maxHeartbeats 1000000
abbrev aY:=(Int×(Int×Unit))
abbrev aW:=(Int×(Int×aY))
abbrev aP:=(Int×((List UInt8)×((List UInt8)×aY)))
abbrev bS:=(Int×(Int×((List aP)×Unit)))
abbrev aC:=(Int×(Int×(Int×(Int×((List aY)×Unit)))))
abbrev aF:=(Int×(Int×((List UInt8)×((List UInt8)×Unit))))
abbrev eO:=(Int×(Int×(Int×(Int×aF))))
abbrev aD:=(Int×((List Int)×((List Int)×((List Int)×Unit))))
abbrev bA:=((List bS)×((List aC)×((List aD)×(Int×((List Int)×((List aF)×Unit))))))
abbrev jY:=((0:Int),((0:Int),((0:Int),((0:Int),(([]:List aY),())))))
abbrev oB:=((0:Int),(([]:List Int),(([]:List Int),(([]:List Int),()))))
abbrev pQ:=((0:Int),(([]:List UInt8),(([]:List UInt8),())))
abbrev zk7:Ty:=(.pair (.int .i64) (.pair (.int .i64) .unit))
abbrev zt8:Type:=(Unit×((List bS)×((List aC)×((List aD)×((List Int)×((List aF)×(Int×(Unit×((List bS)×((List aC)×((List aD)×((List Int)×((List aF)×Unit)))))))))))))
abbrev pF:=((0:Int),((0:Int),(([]:List aP),())))
abbrev qT:Ty:=(.pair (.int .i64) (.pair (.sl 0 (.int .i64)) (.pair (.sl 0 (.int .i64)) (.pair (.sl 0 (.int .i64)) .unit))))
abbrev vJ:Ty:=(.pair (.int .i64) (.pair (.int .i64) (.pair (.int .i64) (.pair (.int .i64) (.pair (.sl 0 zk7) .unit)))))
abbrev aDA:Type:=(Int×(Int×(Unit×((List aP)×(Int×(Int×(Unit×((List aP)×Unit))))))))
abbrev sH:=((0:Int),((0:Int),((0:Int),((0:Int),((0:Int),pQ)))))
abbrev aGq:Type:=((List aC)×((Int×((List Int)×((List aF)×Unit)))×((List bS)×((List aD)×(Int×(Unit×((List bS)×((List aC)×((List aD)×((List Int)×((List aF)×Unit)))))))))))
abbrev aCe:Type:=(Int×(Unit×((List Int)×((List Int)×((List Int)×(Int×(Unit×((List Int)×((List Int)×((List Int)×Unit))))))))))
abbrev mO:Type:=(Unit×(Bool×Unit))
abbrev nW:=((0:Int),((0:Int),()))
abbrev lL:=((0:Int),(([]:List UInt8),(([]:List UInt8),nW)))
abbrev wW:Ty:=(.pair (.int .i64) (.pair (.int .i64) zk7))
abbrev aAT:Ty:=(.pair (.int .i64) (.pair (.int .i64) (.pair .str (.pair .str .unit))))
abbrev zk6:Ty:=(.pair (.int .i64) (.pair (.int .i64) (.pair (.int .i64) (.pair (.int .i64) aAT))))
abbrev aC6:Type:=(Int×(Int×(Int×(Int×(Unit×((List aY)×Unit))))))
abbrev aKy:Type:=(Int×(Unit×((List bS)×((List aC)×((List aD)×((List Int)×((List aF)×(Int×(Unit×((List bS)×((List aC)×((List aD)×((List Int)×((List aF)×((List aF)×Unit)))))))))))))))
abbrev aKk:Type:=(Int×(Unit×((List bS)×((List aC)×((List aD)×((List Int)×((List aF)×((List aF)×(Int×(Unit×((List bS)×((List aC)×((List aD)×((List Int)×((List aF)×Unit)))))))))))))))
abbrev zI:Ty:=(.pair (.int .i64) (.pair .str (.pair .str zk7)))
abbrev sZ:Ty:=(.pair (.int .i64) (.pair (.int .i64) (.pair (.sl 0 zI) .unit)))
abbrev zk1:Ty:=(.pair (.sl 0 sZ) (.pair (.sl 0 vJ) (.pair (.sl 0 qT) (.pair (.int .i64) (.pair (.sl 0 (.int .i64)) (.pair (.sl 0 aAT) .unit))))))
abbrev uK:Type:=(Unit×(Int×Unit))
abbrev aJ4:=((0:Int),((0:Int),((0:Int),((0:Int),((0:Int),((),(([]:List aY),())))))))
abbrev yJ:Type:=((List aC)×Unit)
abbrev aDV:Type:=(Int×(Int×(bS×aDA)))
abbrev aDo:Type:=(Unit×(aD×Unit))
abbrev yI:Type:=(aF×Unit)
abbrev aJX:Type:=(Int×(Unit×((List bS)×((List aC)×((List aD)×((List Int)×((List aF)×yI)))))))
abbrev aKm:Type:=(Int×(Unit×((List bS)×((List aC)×((List aD)×((List Int)×((List aF)×aJX)))))))
theorem lF{n:Int}(h1:-9223372036854775808<=n)(h2:n<=9223372036854775807):wrap .i64 n=n:=by
 simp[wrap,IntKind.signed,IntKind.bits];omega
theorem aLa{n:Int}:inK .i64 n↔-9223372036854775808<=n/\n<=9223372036854775807:=by
 unfold inK;rw[aHK,aI3]
theorem qJ:maxLen=9223372036854775807:=rfl
def cH{α:Type}(xs:List α):Bool:=decide (xs.length<=16777216)
theorem bW{α:Type}{xs:List α}:cH xs=true↔xs.length<=16777216:=by simp[cH]
theorem cX{α:Type}{xs:List α}{i:Nat}{d:α}(h:i<xs.length):xs.getD i d=xs[i]:=by
 rw[List.getD_eq_getElem?_getD,Zm h];rfl
def letB{α β:Type}(a:α)(f:α->β):β:=f a
open Classical in
noncomputable def same{α:Type}(a b:α):Bool:=decide (a=b)
theorem cF{α:Type}{a b:α}:same a b=true↔a=b:=by simp[same]
theorem aM{α:Type}{a b:α}:same a b=false↔¬a=b:=by simp[same]
theorem mH{α:Type}(a:α):same a a=true:=cF.2 rfl
theorem nY{α:Type}(l:List α)(i:Nat)(v:α):l.modify i (fun _=>v)=l.set i v:=by
 apply List.ext_getElem?
 intro j
 rw[List.getElem?_modify,List.getElem?_set]
 by_cases h:i=j
 . subst h
   rcases Nat.lt_or_ge i l.length with hl|hl
   . simp[hl]
   . simp[List.getElem?_eq_none hl,Nat.not_lt.2 hl]
 . simp[h]
section
variable {α:Type}
abbrev ToS(α:Type):=List α×(Int×(List α×Unit))
def aJH:ToS α->Prop:=fun s=>s.1.length<=maxLen/\0<=s.2.1/\s.2.1.toNat<=s.1.length/\s.2.2.1.length=s.1.length/\s.2.2.1.take s.2.1.toNat=s.1.take s.2.1.toNat
open Classical in
noncomputable def aAr(s:ToS α):Bool:=decide (aJH s)
def aIu:ToS α->List α×Unit:=fun s=>(s.1,())
def aIU:ToS α->Nat:=fun s=>s.1.length-s.2.1.toNat
theorem pD{s:ToS α}:aAr s=true↔aJH s:=by simp[aAr]
theorem aKh{x1:List α}{x2:Int}{x3:List α}(hp:aAr (x1,(x2,(x3,())))=true)(hlt:x2<(x1.length:Int))(d:α):
 x2<(x3.length:Int)/\0<=x2/\Rounds aAr aIU aIu (x1,(x2,(x3,()))) (some (.inl (x1,(wrap .i64 (x2+1),(x3.modify x2.toNat (fun _=>x1.getD x2.toNat d),()))))):=by
 rw[pD] at hp
 obtain⟨h1,h2,h3,h4,h5⟩:=hp
 simp only[] at h1 h2 h3 h4 h5
 have hM:=qJ
 have hn:x2.toNat<x1.length:=by omega
 refine⟨by omega,h2,?_⟩
 simp only[Rounds,lF (n:=x2+1) (by omega) (by omega),pD]
 refine⟨⟨h1,by show 0<=x2+1;omega,by show(x2+1).toNat<=x1.length;omega,by show(List.modify _ _ _).length=_;rw[List.length_modify];exact h4,?_⟩,by simp only[aIU];omega,rfl⟩
 show List.take (x2+1).toNat (x3.modify x2.toNat (fun _=>x1.getD x2.toNat d))=List.take (x2+1).toNat x1
 rw[nY,show(x2+1).toNat=x2.toNat+1 by omega,List.take_add_one,List.take_add_one,List.take_set_of_le (by omega),h5]
 congr 1
 rw[List.getElem?_set_self (by omega),cX hn,Zm hn]
theorem aLq{x1:List α}{x2:Int}{x3:List α}(hp:aAr (x1,(x2,(x3,())))=true)(hlt:¬x2<(x1.length:Int)):
 Rounds aAr aIU aIu (x1,(x2,(x3,()))) (some (.inr (x3,()))):=by
 rw[pD] at hp
 obtain⟨h1,h2,h3,h4,h5⟩:=hp
 simp only[] at h1 h2 h3 h4 h5
 have:x2.toNat=x1.length:=by omega
 rw[this,List.take_length,<-h4,List.take_length] at h5
 simp only[Rounds,aIu,h5]
theorem aJ5{x:List α}(h:x.length<=maxLen)(d:α):aAr (x,((0:Int),(List.replicate (Int.toNat ((x.length:Nat):Int)) d,())))=true:=by
 rw[pD]
 exact⟨h,by simp,by simp,by simp,by simp⟩
abbrev EqS(α:Type):=List α×(List α×(Int×Unit))
def rV:EqS α->Bool:=fun s=>decide (s.1.length<=maxLen)&&decide (0<=s.2.2.1)&&decide (s.2.2.1.toNat<=s.1.length)&&decide (s.2.1.length=s.1.length)
open Classical in
noncomputable def yL:EqS α->(Bool×Unit)⊕Unit:=fun s=>if s.1.drop s.2.2.1.toNat=s.2.1.drop s.2.2.1.toNat then .inr () else .inl (false,())
def aCc:EqS α->Nat:=fun s=>s.1.length-s.2.2.1.toNat
theorem uS{x1 x2:List α}{x3:Int}(hp:rV (x1,(x2,(x3,())))=true)(hlt:x3<(x1.length:Int))(d:α):
 0<=x3/\x3<(x2.length:Int)/\(x1.getD x3.toNat d=x2.getD x3.toNat d->Rounds rV aCc yL (x1,(x2,(x3,()))) (some (.inl (x1,(x2,(wrap .i64 (x3+1),()))))))/\
  (¬x1.getD x3.toNat d=x2.getD x3.toNat d->Rounds rV aCc yL (x1,(x2,(x3,()))) (some (.inr (.inl (false,()))))):=by
 simp only[rV,Zb,Za] at hp
 obtain⟨⟨⟨h1,h2⟩,h3⟩,h4⟩:=hp
 have hM:=qJ
 have hn:x3.toNat<x1.length:=by omega
 have hn2:x3.toNat<x2.length:=by omega
 have e1:=Zn hn
 have e2:=Zn hn2
 rw[cX hn,cX hn2]
 refine⟨h2,by omega,fun he=>?_,fun he=>?_⟩
 . simp only[Rounds,lF (n:=x3+1) (by omega) (by omega)]
   refine⟨?_,by simp only[aCc];omega,?_⟩
   . simp only[rV,Zb,Za]
     exact⟨⟨⟨h1,by omega⟩,by omega⟩,h4⟩
   . have hi:x1.drop (x3+1).toNat=x2.drop (x3+1).toNat↔x1.drop x3.toNat=x2.drop x3.toNat:=by
      rw[show(x3+1).toNat=x3.toNat+1 by omega,e1,e2,he,List.cons.injEq];simp
     simp only[yL]
     by_cases hc:x1.drop x3.toNat=x2.drop x3.toNat
     . rw[if_pos hc,if_pos (hi.2 hc)]
     . rw[if_neg hc,if_neg (fun h=>hc (hi.1 h))]
 . simp only[Rounds,yL]
   rw[if_neg]
   rw[e1,e2,List.cons.injEq]
   exact fun h=>he h.1
theorem yP{x1 x2:List α}{x3:Int}(hp:rV (x1,(x2,(x3,())))=true)(hlt:¬x3<(x1.length:Int)):
 Rounds rV aCc yL (x1,(x2,(x3,()))) (some (.inr (.inr ()))):=by
 simp only[rV,Zb,Za] at hp
 obtain⟨⟨⟨h1,h2⟩,h3⟩,h4⟩:=hp
 simp only[Rounds,yL]
 rw[Zt (by omega),Zt (by omega),if_pos rfl]
theorem sR{x0 x1:List α}(h:x0.length<=maxLen)(hl:(x0.length:Int)=(x1.length:Int)):rV (x0,(x1,((0:Int),())))=true:=by
 simp only[rV,Zb,Za]
 exact⟨⟨⟨h,by omega⟩,by omega⟩,by omega⟩
theorem uW{x0 x1:List α}(h:x0=x1):yL (x0,(x1,((0:Int),())))=.inr ():=by
 unfold yL
 exact if_pos h
theorem uQ{x0 x1:List α}(h:¬x0=x1):yL (x0,(x1,((0:Int),())))=.inl (false,()):=by
 unfold yL
 exact if_neg h
abbrev SzS(α:Type):=List α×(Int×(Int×Unit))
def aJI:SzS α->Nat:=fun s=>s.1.length-s.2.2.1.toNat
end
def aA(n lo hi:Int):Bool:=decide (lo<=n)&&decide (n<=hi)
namespace aA
abbrev wf(x0:Int)(x1:Int)(x2:Int):Prop:=hN [(.val (.int .i64) .f),(.val (.int .i64) .f),(.val (.int .i64) .f)] (x0,(x1,(x2,())))
noncomputable def aQ(x0:Int)(x1:Int)(x2:Int):Option mO:=
 if(decide (x1<=x0))=true then
 some ((),((decide (x0<=x2)),()))
 else
 some ((),(false,()))
theorem eq(x0 x1 x2:Int)(_:wf x0 x1 x2):aQ x0 x1 x2=some ((),(aA x0 x1 x2,())):=by
 unfold aQ aA
 by_cases h:x1<=x0<;>simp[h]
end aA
abbrev fM:=aA
namespace fM
abbrev wf(x0:Int)(x1:Int)(x2:Int):Prop:=hN [(.val (.int .i64) .f),(.val (.int .i64) .f),(.val (.int .i64) .f)] (x0,(x1,(x2,())))
noncomputable def aQ(x0:Int)(x1:Int)(x2:Int):Option mO:=
 if(decide (x1<=x0))=true then
 some ((),((decide (x0<=x2)),()))
 else
 some ((),(false,()))
theorem eq(x0 x1 x2:Int)(_:wf x0 x1 x2):aQ x0 x1 x2=some ((),(fM x0 x1 x2,())):=by
 unfold aQ fM aA
 by_cases h:x1<=x0<;>simp[h]
end fM
def aAY(c:UInt8):Bool:=(decide (97<=c.toNat)&&decide (c.toNat<=122))||(decide (48<=c.toNat)&&decide (c.toNat<=57))||decide (c.toNat=32)
def fT(s:List UInt8):Bool:=s.all aAY&&decide (s.length<=30)
abbrev TxS:=List UInt8×(Int×Unit)
def yD:TxS->Bool:=fun s=>decide (s.1.length<=maxLen)&&decide (0<=s.2.1)&&decide (s.2.1.toNat<=s.1.length)
def aE3:TxS->(Bool×Unit)⊕(List UInt8×Unit):=fun s=>if(s.1.drop s.2.1.toNat).all aAY=true then .inr (s.1,()) else .inl (false,())
def aIB:TxS->Nat:=fun s=>s.1.length-s.2.1.toNat
theorem aHG{x1:List UInt8}{x2:Int}(hp:yD (x1,(x2,()))=true)(hlt:x2<(x1.length:Int)):
 0<=x2/\(aAY (x1.getD x2.toNat 0)=true->Rounds yD aIB aE3 (x1,(x2,())) (some (.inl (x1,(wrap .i64 (x2+1),())))))/\
  (aAY (x1.getD x2.toNat 0)=false->Rounds yD aIB aE3 (x1,(x2,())) (some (.inr (.inl (false,()))))):=by
 simp only[yD,Zb,Za] at hp
 obtain⟨⟨h1,h2⟩,h3⟩:=hp
 have hM:=qJ
 have hn:x2.toNat<x1.length:=by omega
 have e1:=Zn hn
 rw[cX hn]
 refine⟨h2,fun he=>?_,fun he=>?_⟩
 . simp only[Rounds,lF (n:=x2+1) (by omega) (by omega)]
   refine⟨?_,by simp only[aIB];omega,?_⟩
   . simp only[yD,Zb,Za]
     exact⟨⟨h1,by omega⟩,by omega⟩
   . simp only[aE3,show(x2+1).toNat=x2.toNat+1 by omega,e1,List.all_cons,he,Bool.true_and]
 . simp only[Rounds,aE3,e1,List.all_cons,he,Bool.false_and,Zj,if_false]
theorem aJP{x1:List UInt8}{x2:Int}(hp:yD (x1,(x2,()))=true)(hlt:¬x2<(x1.length:Int)):
 Rounds yD aIB aE3 (x1,(x2,())) (some (.inr (.inr (x1,())))):=by
 simp only[yD,Zb,Za] at hp
 obtain⟨⟨h1,h2⟩,h3⟩:=hp
 simp only[Rounds,aE3]
 rw[Zt (by omega)]
 rfl
theorem aL4{x0:List UInt8}(h:x0.length<=maxLen):yD (x0,((0:Int),()))=true:=by simp[yD,h]
abbrev gO:=fT
abbrev jW:=fT
namespace gO
def pre2:=yD
def fn2:=aE3
def mA:=aIB
noncomputable def dT(x1:(List UInt8))(x2:Int):Option (((List UInt8)×(Int×Unit))⊕((Bool×Unit)⊕((List UInt8)×Unit))):=
 if(decide (x2<((length x1:Nat):Int)))=true then
 if(decide ((0:Int)<=x2))=true then
 if(decide (x2<((length x1:Nat):Int)))=true then
 if(decide (((UInt8.toNat (List.getD x1 (Int.toNat x2) 0):Nat):Int)<(97:Int)))=true then
 if(decide (((UInt8.toNat (List.getD x1 (Int.toNat x2) 0):Nat):Int)<(48:Int)))=true then
 if(!(decide (((UInt8.toNat (List.getD x1 (Int.toNat x2) 0):Nat):Int)=(32:Int))))=true then
 some (.inr (.inl (false,())))
 else
 some (.inl (x1,((wrap .i64 (x2+(1:Int))),())))
 else
 if(decide ((57:Int)<((UInt8.toNat (List.getD x1 (Int.toNat x2) 0):Nat):Int)))=true then
 if(!(decide (((UInt8.toNat (List.getD x1 (Int.toNat x2) 0):Nat):Int)=(32:Int))))=true then
 some (.inr (.inl (false,())))
 else
 some (.inl (x1,((wrap .i64 (x2+(1:Int))),())))
 else
 some (.inl (x1,((wrap .i64 (x2+(1:Int))),())))
 else
 if(decide ((122:Int)<((UInt8.toNat (List.getD x1 (Int.toNat x2) 0):Nat):Int)))=true then
 if(decide (((UInt8.toNat (List.getD x1 (Int.toNat x2) 0):Nat):Int)<(48:Int)))=true then
 if(!(decide (((UInt8.toNat (List.getD x1 (Int.toNat x2) 0):Nat):Int)=(32:Int))))=true then
 some (.inr (.inl (false,())))
 else
 some (.inl (x1,((wrap .i64 (x2+(1:Int))),())))
 else
 if(decide ((57:Int)<((UInt8.toNat (List.getD x1 (Int.toNat x2) 0):Nat):Int)))=true then
 if(!(decide (((UInt8.toNat (List.getD x1 (Int.toNat x2) 0):Nat):Int)=(32:Int))))=true then
 some (.inr (.inl (false,())))
 else
 some (.inl (x1,((wrap .i64 (x2+(1:Int))),())))
 else
 some (.inl (x1,((wrap .i64 (x2+(1:Int))),())))
 else
 some (.inl (x1,((wrap .i64 (x2+(1:Int))),())))
 else
 none
 else
 none
 else
 some (.inr (.inr (x1,())))
abbrev wf(x0:(List UInt8)):Prop:=hN [(.val .str .f)] (x0,())
noncomputable def aQ(x0:(List UInt8)):Option mO:=
 if(gO.pre2 (x0,((0:Int),())))=true then
  match(gO.fn2 (x0,((0:Int),()))) with
  |.inl y=>
   some ((),y)
  |.inr y=>
   some ((),((decide (((length y.1:Nat):Int)<=(30:Int))),()))
 else
  none
theorem rR(x1:List UInt8)(x2:Int)(hp:pre2 (x1,(x2,()))=true):Rounds pre2 mA fn2 (x1,(x2,())) (dT x1 x2):=by
 unfold dT
 by_cases hlt:x2<(x1.length:Int)
 . obtain⟨h1,h2,h3⟩:=aHG hp hlt
   simp only[hlt,h1,decide_true,if_true,Za,Bool.not_eq_true',Zv]
   generalize hc:(x1.getD x2.toNat 0)=c at *
   have hk:aAY c=true\/aAY c=false:=by cases aAY c<;>simp
   unfold aAY at hk h2 h3
   simp only[Bool.or_eq_true,Zb,Za,Bool.or_eq_false_iff,Bool.and_eq_false_iff,Zv] at hk h2 h3
   repeat' split
   all_goals first|(exact h2 (by omega))|(exact h3 (by omega))
 . simp only[hlt,decide_false,Zj,if_false]
   exact aJP hp hlt
theorem eq(x0:List UInt8)(hw:wf x0):aQ x0=some ((),(gO x0,())):=by
 have h1:x0.length<=maxLen:=hw.1
 unfold aQ gO fT
 rw[if_pos (show pre2 _=true from aL4 h1)]
 simp only[fn2,aE3,Int.toNat_zero,List.drop_zero]
 by_cases h:x0.all aAY=true
 . rw[if_pos h,h]
   by_cases hl:x0.length<=30
   . simp[hl];omega
   . simp[hl];omega
 . rw[if_neg h];simp[h]
end gO
namespace jW
def pre2:=yD
def fn2:=aE3
def mA:=aIB
noncomputable def dT(x1:(List UInt8))(x2:Int):Option (((List UInt8)×(Int×Unit))⊕((Bool×Unit)⊕((List UInt8)×Unit))):=
 if(decide (x2<((length x1:Nat):Int)))=true then
 if(decide ((0:Int)<=x2))=true then
 if(decide (x2<((length x1:Nat):Int)))=true then
 if(decide ((97:Int)<=((UInt8.toNat (List.getD x1 (Int.toNat x2) 0):Nat):Int)))=true then
 if(decide (((UInt8.toNat (List.getD x1 (Int.toNat x2) 0):Nat):Int)<=(122:Int)))=true then
 if(!true)=true then
 some (.inr (.inl (false,())))
 else
 some (.inl (x1,((wrap .i64 (x2+(1:Int))),())))
 else
 if(decide ((48:Int)<=((UInt8.toNat (List.getD x1 (Int.toNat x2) 0):Nat):Int)))=true then
 if(decide (((UInt8.toNat (List.getD x1 (Int.toNat x2) 0):Nat):Int)<=(57:Int)))=true then
 if(!true)=true then
 some (.inr (.inl (false,())))
 else
 some (.inl (x1,((wrap .i64 (x2+(1:Int))),())))
 else
 if(!(decide (((UInt8.toNat (List.getD x1 (Int.toNat x2) 0):Nat):Int)=(32:Int))))=true then
 some (.inr (.inl (false,())))
 else
 some (.inl (x1,((wrap .i64 (x2+(1:Int))),())))
 else
 if(!(decide (((UInt8.toNat (List.getD x1 (Int.toNat x2) 0):Nat):Int)=(32:Int))))=true then
 some (.inr (.inl (false,())))
 else
 some (.inl (x1,((wrap .i64 (x2+(1:Int))),())))
 else
 if(decide ((48:Int)<=((UInt8.toNat (List.getD x1 (Int.toNat x2) 0):Nat):Int)))=true then
 if(decide (((UInt8.toNat (List.getD x1 (Int.toNat x2) 0):Nat):Int)<=(57:Int)))=true then
 if(!true)=true then
 some (.inr (.inl (false,())))
 else
 some (.inl (x1,((wrap .i64 (x2+(1:Int))),())))
 else
 if(!(decide (((UInt8.toNat (List.getD x1 (Int.toNat x2) 0):Nat):Int)=(32:Int))))=true then
 some (.inr (.inl (false,())))
 else
 some (.inl (x1,((wrap .i64 (x2+(1:Int))),())))
 else
 if(!(decide (((UInt8.toNat (List.getD x1 (Int.toNat x2) 0):Nat):Int)=(32:Int))))=true then
 some (.inr (.inl (false,())))
 else
 some (.inl (x1,((wrap .i64 (x2+(1:Int))),())))
 else
 none
 else
 none
 else
 some (.inr (.inr (x1,())))
abbrev wf(x0:(List UInt8)):Prop:=hN [(.val .str .f)] (x0,())
noncomputable def aQ(x0:(List UInt8)):Option mO:=
 if(jW.pre2 (x0,((0:Int),())))=true then
  match(jW.fn2 (x0,((0:Int),()))) with
  |.inl y=>
   some ((),y)
  |.inr y=>
   some ((),((decide (((length y.1:Nat):Int)<=(30:Int))),()))
 else
  none
theorem rR(x1:List UInt8)(x2:Int)(hp:pre2 (x1,(x2,()))=true):Rounds pre2 mA fn2 (x1,(x2,())) (dT x1 x2):=by
 unfold dT
 by_cases hlt:x2<(x1.length:Int)
 . obtain⟨h1,h2,h3⟩:=aHG hp hlt
   simp only[hlt,h1,decide_true,if_true,Za,Bool.not_eq_true',Zv,Bool.not_true,Zj,if_false]
   generalize hc:(x1.getD x2.toNat 0)=c at *
   have hk:aAY c=true\/aAY c=false:=by cases aAY c<;>simp
   unfold aAY at hk h2 h3
   simp only[Bool.or_eq_true,Zb,Za,Bool.or_eq_false_iff,Bool.and_eq_false_iff,Zv] at hk h2 h3
   repeat' split
   all_goals first|(exact h2 (by omega))|(exact h3 (by omega))
 . simp only[hlt,decide_false,Zj,if_false]
   exact aJP hp hlt
theorem eq(x0:List UInt8)(hw:wf x0):aQ x0=some ((),(jW x0,())):=by
 have h1:x0.length<=maxLen:=hw.1
 unfold aQ jW fT
 rw[if_pos (show pre2 _=true from aL4 h1)]
 simp only[fn2,aE3,Int.toNat_zero,List.drop_zero]
 by_cases h:x0.all aAY=true
 . rw[if_pos h,h]
   by_cases hl:x0.length<=30
   . simp[hl];omega
   . simp[hl];omega
 . rw[if_neg h];simp[h]
end jW
def rX(c:eO):Bool:=
 if c.1=-1 then decide (c.1=-1)&&(decide (c.2.1=0)&&(decide (c.2.2.1=0)&&(decide (c.2.2.2.1=0)&&(decide (c.2.2.2.2.1=0)&&(decide (c.2.2.2.2.2.1=0)&&(c.2.2.2.2.2.2.1==[]&&c.2.2.2.2.2.2.2.1==[]))))))
 else aA c.1 0 3&&(aA c.2.1 1 100000&&(aA c.2.2.1 1 10&&(aA c.2.2.2.1 0 100000&&(aA c.2.2.2.2.1 0 100000&&(aA c.2.2.2.2.2.1 0 100000&&(fT c.2.2.2.2.2.2.1&&fT c.2.2.2.2.2.2.2.1))))))
abbrev oA:=rX
abbrev oD:=rX
namespace oA
abbrev wf(x0:eO):Prop:=hN [(.val zk6 .f)] (x0,())
noncomputable def aQ(x0:eO):Option mO:=
 if(decide (x0.1=(-1:Int)))=true then
 some ((),(((decide (x0.1=(-1:Int)))&&((decide (x0.2.1=(0:Int)))&&((decide (x0.2.2.1=(0:Int)))&&((decide (x0.2.2.2.1=(0:Int)))&&((decide (x0.2.2.2.2.1=(0:Int)))&&((decide (x0.2.2.2.2.2.1=(0:Int)))&&((x0.2.2.2.2.2.2.1==([]:List UInt8))&&(x0.2.2.2.2.2.2.2.1==([]:List UInt8))))))))),()))
 else
 if(aA x0.1 (0:Int) (3:Int))=true then
 if(aA x0.2.1 (1:Int) (100000:Int))=true then
 if(aA x0.2.2.1 (1:Int) (10:Int))=true then
 if(aA x0.2.2.2.1 (0:Int) (100000:Int))=true then
 if(aA x0.2.2.2.2.1 (0:Int) (100000:Int))=true then
 if(aA x0.2.2.2.2.2.1 (0:Int) (100000:Int))=true then
 if(fT x0.2.2.2.2.2.2.1)=true then
 some ((),((fT x0.2.2.2.2.2.2.2.1),()))
 else
 some ((),(false,()))
 else
 some ((),(false,()))
 else
 some ((),(false,()))
 else
 some ((),(false,()))
 else
 some ((),(false,()))
 else
 some ((),(false,()))
 else
 some ((),(false,()))
theorem eq(x0:eO)(_:wf x0):aQ x0=some ((),(oA x0,())):=by
 unfold aQ oA rX
 simp only[Za]
 split
 . rfl
 . cases aA x0.1 0 3<;>simp only[Zj,if_false,if_true,Bool.false_and,Bool.true_and]
   cases aA x0.2.1 1 100000<;>simp only[Zj,if_false,if_true,Bool.false_and,Bool.true_and]
   cases aA x0.2.2.1 1 10<;>simp only[Zj,if_false,if_true,Bool.false_and,Bool.true_and]
   cases aA x0.2.2.2.1 0 100000<;>simp only[Zj,if_false,if_true,Bool.false_and,Bool.true_and]
   cases aA x0.2.2.2.2.1 0 100000<;>simp only[Zj,if_false,if_true,Bool.false_and,Bool.true_and]
   cases aA x0.2.2.2.2.2.1 0 100000<;>simp only[Zj,if_false,if_true,Bool.false_and,Bool.true_and]
   cases fT x0.2.2.2.2.2.2.1<;>simp only[Zj,if_false,if_true,Bool.false_and,Bool.true_and]
end oA
namespace oD
abbrev wf(x0:eO):Prop:=hN [(.val zk6 .f)] (x0,())
noncomputable def aQ(x0:eO):Option mO:=
 if(decide (x0.1=(-1:Int)))=true then
 some ((),(((decide (x0.1=(-1:Int)))&&((decide (x0.2.1=(0:Int)))&&((decide (x0.2.2.1=(0:Int)))&&((decide (x0.2.2.2.1=(0:Int)))&&((decide (x0.2.2.2.2.1=(0:Int)))&&((decide (x0.2.2.2.2.2.1=(0:Int)))&&((x0.2.2.2.2.2.2.1==([]:List UInt8))&&(x0.2.2.2.2.2.2.2.1==([]:List UInt8))))))))),()))
 else
 if(aA x0.1 (0:Int) (3:Int))=true then
 if(aA x0.2.1 (1:Int) (100000:Int))=true then
 if(aA x0.2.2.1 (1:Int) (10:Int))=true then
 if(aA x0.2.2.2.1 (0:Int) (100000:Int))=true then
 if(aA x0.2.2.2.2.1 (0:Int) (100000:Int))=true then
 if(aA x0.2.2.2.2.2.1 (0:Int) (100000:Int))=true then
 if(fT x0.2.2.2.2.2.2.1)=true then
 some ((),((fT x0.2.2.2.2.2.2.2.1),()))
 else
 some ((),(false,()))
 else
 some ((),(false,()))
 else
 some ((),(false,()))
 else
 some ((),(false,()))
 else
 some ((),(false,()))
 else
 some ((),(false,()))
 else
 some ((),(false,()))
theorem eq(x0:eO)(_:wf x0):aQ x0=some ((),(oD x0,())):=by
 unfold aQ oD rX
 simp only[Za]
 split
 . rfl
 . cases aA x0.1 0 3<;>simp only[Zj,if_false,if_true,Bool.false_and,Bool.true_and]
   cases aA x0.2.1 1 100000<;>simp only[Zj,if_false,if_true,Bool.false_and,Bool.true_and]
   cases aA x0.2.2.1 1 10<;>simp only[Zj,if_false,if_true,Bool.false_and,Bool.true_and]
   cases aA x0.2.2.2.1 0 100000<;>simp only[Zj,if_false,if_true,Bool.false_and,Bool.true_and]
   cases aA x0.2.2.2.2.1 0 100000<;>simp only[Zj,if_false,if_true,Bool.false_and,Bool.true_and]
   cases aA x0.2.2.2.2.2.1 0 100000<;>simp only[Zj,if_false,if_true,Bool.false_and,Bool.true_and]
   cases fT x0.2.2.2.2.2.2.1<;>simp only[Zj,if_false,if_true,Bool.false_and,Bool.true_and]
end oD
def aGO(k:Nat)(out:List UInt8):List UInt8:=
 if k=0 then out else aGO (k/10) (List.append (vX (wrap .u8 (wrap .i64 (48+Int.tmod (k:Int) 10))::([]:List Int))) out)
termination_by k
decreasing_by omega
theorem aJv(k:Nat)(out:List UInt8):(aGO k out).length<=k+out.length:=by
 induction k using Nat.strongRecOn generalizing out with
 |ind k ih=>
  rw[aGO]
  split
  . omega
  . rename_i h
    refine Nat.le_trans (ih (k/10) (by omega) _) ?_
    simp only[List.append_eq,Zf,vX,List.map_cons,List.map_nil,Zg,Zh]
    omega
def aG(k:Int):List UInt8:=if k<=0 then[109,48] else 109::aGO k.toNat []
namespace aG
def pre(k:Int):Bool:=decide (k<=2147483648)
abbrev S:=Int×(List UInt8×Unit)
def pre4:S->Bool:=fun s=>decide (0<=s.1)&&decide (s.1.toNat+s.2.1.length<=4294967295)
def fn4:S->List UInt8×Unit:=fun s=>(aGO s.1.toNat s.2.1,())
def lN:S->Nat:=fun s=>s.1.toNat
noncomputable def eA(x1:Int)(x2:(List UInt8)):Option ((Int×((List UInt8)×Unit))⊕((List UInt8)×Unit)):=
 if(decide ((0:Int)<x1))=true then
 if(!(decide ((10:Int)=(0:Int))))=true then
 if(decide (length (vX ((wrap .u8 (wrap .i64 ((48:Int)+(Int.tmod x1 (10:Int)))))::([]:List Int)))+length x2<=hY))=true then
 if(!(decide ((10:Int)=(0:Int))))=true then
 some (.inl ((wrap .i64 (Int.tdiv x1 (10:Int))),((List.append (vX ((wrap .u8 (wrap .i64 ((48:Int)+(Int.tmod x1 (10:Int)))))::([]:List Int))) x2),())))
 else
 none
 else
 none
 else
 none
 else
 some (.inr (x2,()))
abbrev wf(x0:Int):Prop:=hN [(.val (.int .i64) .f)] (x0,())
noncomputable def aQ(x0:Int):Option (Unit×((List UInt8)×Unit)):=
 if(decide (x0<=(0:Int)))=true then
 some ((),(((109:UInt8)::((48:UInt8)::([]:List UInt8))),()))
 else
 if(aG.pre4 (x0,(([]:List UInt8),())))=true then
 if(decide (length ((109:UInt8)::([]:List UInt8))+length (aG.fn4 (x0,(([]:List UInt8),()))).1<=hY))=true then
 some ((),((List.append ((109:UInt8)::([]:List UInt8)) (aG.fn4 (x0,(([]:List UInt8),()))).1),()))
 else
 none
 else
 none
theorem uM(x1:Int)(x2:List UInt8)(hp:pre4 (x1,(x2,()))=true):Rounds pre4 lN fn4 (x1,(x2,())) (eA x1 x2):=by
 simp only[pre4,Zb,Za] at hp
 obtain⟨h1,h2⟩:=hp
 unfold eA
 by_cases h:0<x1
 . have hd:Int.tdiv x1 10=x1/10:=Int.tdiv_eq_ediv_of_nonneg h1
   have hn:((x1.toNat:Nat):Int)=x1:=Int.toNat_of_nonneg h1
   rw[if_pos (by simp[h]),if_pos (by decide),if_pos (by simp only[vX,List.map_cons,List.map_nil,Zg,Zh,Za,hY];omega),if_pos (by decide),hd,lF (by omega) (by omega)]
   simp only[Rounds]
   refine⟨?_,by simp only[lN];omega,?_⟩
   . simp only[pre4,Zb,Za,List.append_eq,Zf,vX,List.map_cons,List.map_nil,Zg,Zh]
     omega
   . simp only[fn4]
     conv=>rhs;rw[aGO,if_neg (by omega),hn]
     rw[show(x1/10).toNat=x1.toNat/10 by omega]
 . rw[if_neg (by simp[h])]
   simp only[Rounds,fn4]
   rw[show x1.toNat=0 by omega,aGO,if_pos rfl]
theorem eq(x0:Int)(_:wf x0)(hp:pre x0=true):aQ x0=some ((),(aG x0,())):=by
 simp only[pre,Za] at hp
 unfold aQ aG
 by_cases h:x0<=0
 . simp[h]
 . have hl:=aJv x0.toNat []
   simp only[Zh,Nat.add_zero] at hl
   have hl':(fn4 (x0,(([]:List UInt8),()))).1.length<=x0.toNat:=hl
   rw[if_neg (by simp[h]),if_pos (show pre4 _=true by simp only[pre4,Zb,Za,Zh];omega),if_pos (by rw[Za];simp only[Zg,Zh,hY];omega),if_neg h]
   rfl
end aG
section
variable {α:Type}
def mU(g:α->Bool):List α->Int->Int
 |[],_=>-1
 |a::r,i=>if g a=true then i else mU g r (i+1)
theorem aFu(g:α->Bool):(xs:List α)->(i:Int)->0<=i->-1<=mU g xs i/\(0<=mU g xs i↔xs.any g=true)
 |[],i,h=>by simp[mU]
 |a::r,i,h=>by
  simp only[mU,List.any_cons]
  by_cases ha:g a=true
  . simp[ha];omega
  . have:=aFu g r (i+1) (by omega)
    simp only[Bool.not_eq_true] at ha
    simp only[ha,Zj,if_false,Bool.false_or]
    exact this
abbrev IxS(α:Type):=List α×((α->Bool)×((α->Bool)×(Int×(Int×Unit))))
def rY:IxS α->Bool:=fun s=>decide (s.1.length<=maxLen)&&(decide (s.2.2.2.1=(s.1.length:Int))&&(decide (0<=s.2.2.2.2.1)&&(decide (s.2.2.2.2.1.toNat<=s.1.length)&&s.1.all s.2.1)))
def aB6:IxS α->(Int×Unit)⊕Unit:=fun s=>if mU s.2.2.1 (s.1.drop s.2.2.2.2.1.toNat) s.2.2.2.2.1<0 then .inr () else .inl (mU s.2.2.1 (s.1.drop s.2.2.2.2.1.toNat) s.2.2.2.2.1,())
def aFg:IxS α->Nat:=fun s=>s.1.length-s.2.2.2.2.1.toNat
theorem aBf{x1:List α}{x2 x3:α->Bool}{x4 x5:Int}(hp:rY (x1,(x2,(x3,(x4,(x5,())))))=true)(hlt:x5<x4)(d:α):
 0<=x5/\x5<(x1.length:Int)/\x2 (x1.getD x5.toNat d)=true/\(x3 (x1.getD x5.toNat d)=true->Rounds rY aFg aB6 (x1,(x2,(x3,(x4,(x5,()))))) (some (.inr (.inl (x5,())))))/\
  (¬x3 (x1.getD x5.toNat d)=true->Rounds rY aFg aB6 (x1,(x2,(x3,(x4,(x5,()))))) (some (.inl (x1,(x2,(x3,(x4,(wrap .i64 (x5+1),())))))))):=by
 simp only[rY,Zb,Za] at hp
 obtain⟨h1,rfl,h3,h4,h5⟩:=hp
 have hM:=qJ
 have hn:x5.toNat<x1.length:=by omega
 have e1:=Zn hn
 rw[cX hn]
 refine⟨h3,hlt,Zu.1 h5 _ (List.getElem_mem hn),fun he=>?_,fun he=>?_⟩
 . simp only[Rounds,aB6,e1,mU,he,if_true]
   rw[if_neg (by omega)]
 . simp only[Rounds,lF (n:=x5+1) (by omega) (by omega)]
   refine⟨?_,by simp only[aFg];omega,?_⟩
   . simp only[rY,Zb,Za]
     exact⟨h1,trivial,by omega,by omega,h5⟩
   . simp only[aB6,show(x5+1).toNat=x5.toNat+1 by omega,e1,mU,he,if_false]
     rfl
theorem aCw{x1:List α}{x2 x3:α->Bool}{x4 x5:Int}(hp:rY (x1,(x2,(x3,(x4,(x5,())))))=true)(hlt:¬x5<x4):
 Rounds rY aFg aB6 (x1,(x2,(x3,(x4,(x5,()))))) (some (.inr (.inr ()))):=by
 simp only[rY,Zb,Za] at hp
 obtain⟨h1,rfl,h3,h4,h5⟩:=hp
 simp only[Rounds,aB6]
 rw[Zt (by omega)]
 rfl
end
theorem aI2{α:Type}(f:α->Bool)(xs:List α):xs.any (fun x=>!f x)=!xs.all f:=by
 induction xs with
 |nil=>rfl
 |cons a r ih=>simp[ih,Bool.not_and]
theorem qI{n lo hi:Int}(h:aA n lo hi=true):lo<=n/\n<=hi:=by
 simpa [aA] using h
def aLR(n:Nat):List Int:=if n<=127 then[] else((n%128+128:Nat):Int)::aLR (n/128)
termination_by n
decreasing_by omega
def aLP(n:Nat):Nat:=if n<=127 then n else aLP (n/128)
termination_by n
decreasing_by omega
def aM8(n:Nat):List Int:=aLR n++[(aLP n:Int)]
def aJW(n:Int):List Int:=if 0<=n/\n<=2147483647 then aM8 n.toNat else[]
def aHD(s:List UInt8):List Int:=aJW s.length++nB s
def aMn(xs:List Int):List Int:=xs.flatMap aJW
abbrev R:=List Int×(Int×(Bool×Unit))
section
variable {α:Type}
theorem nU{xs:List α}{i:Nat}{f:α->α}{d:α}(h:i<xs.length):(xs.modify i f).getD i d=f (xs.getD i d):=by
 rw[cX (by rw[List.length_modify];exact h),cX h,List.getElem_modify,if_pos rfl]
def bK(g:α->Int):List α->Int
 |[]=>0
 |a::r=>g a+bK g r
def oL(m:α->Int->α)(g:α->Int):List α->Int->List α
 |[],_=>[]
 |a::r,k=>m a k::oL m g r (k+g a)
structure yK(m:α->Int->α)(g:α->Int):Prop where
 pos:∀x,1<=g x
 keep:∀x k,g (m x k)=g x
 idem:∀x k,m (m x k) k=m x k
theorem aAL{m:α->Int->α}{g:α->Int}(ok:yK m g):(xs:List α)->(xs.length:Int)<=bK g xs
 |[]=>by simp[bK]
 |a::r=>by
  have:=ok.pos a
  have:=aAL ok r
  simp only[bK,Zg];omega
theorem fV{m:α->Int->α}{g:α->Int}(ok:yK m g)(xs:List α):0<=bK g xs:=by
 have:=aAL ok xs
 omega
theorem kO{m:α->Int->α}{g:α->Int}(ok:yK m g):(xs:List α)->(k:Int)->bK g (oL m g xs k)=bK g xs
 |[],_=>rfl
 |a::r,k=>by simp only[oL,bK,ok.keep,kO ok r]
theorem sO{m:α->Int->α}{g:α->Int}(ok:yK m g):(xs:List α)->(k:Int)->oL m g (oL m g xs k) k=oL m g xs k
 |[],_=>rfl
 |a::r,k=>by simp only[oL,ok.keep,ok.idem,sO ok r]
abbrev MkS(α:Type):=Int×(Int×(List α×Unit))
def qX(g:α->Int):MkS α->Bool:=fun s=>decide (0<=s.1)&&(decide (0<=s.2.1)&&(decide (s.2.1.toNat<=s.2.2.1.length)&&(decide (s.2.2.1.length<=134217728)&&decide (s.1+bK g (s.2.2.1.drop s.2.1.toNat)<=134217728))))
def aC8(m:α->Int->α)(g:α->Int):MkS α->Int×(List α×Unit):=fun s=>(s.1+bK g (s.2.2.1.drop s.2.1.toNat),(s.2.2.1.take s.2.1.toNat++oL m g (s.2.2.1.drop s.2.1.toNat) s.1,()))
def aDe:MkS α->Nat:=fun s=>s.2.2.1.length-s.2.1.toNat
theorem qY{m:α->Int->α}{g:α->Int}(ok:yK m g){k i:Int}{xs:List α}(hp:qX g (k,(i,(xs,())))=true)(hlt:i<(xs.length:Int))(d:α):
 0<=i/\0<=k/\k+g (xs.getD i.toNat d)<=134217728/\i.toNat<xs.length:=by
 simp only[qX,Zb,Za] at hp
 obtain⟨h1,h2,h3,h4,h5⟩:=hp
 have hn:i.toNat<xs.length:=by omega
 rw[cX hn]
 rw[Zn hn] at h5
 have:=fV ok (xs.drop (i.toNat+1))
 simp only[bK] at h5
 exact⟨h2,h1,by omega,hn⟩
theorem vF{m:α->Int->α}{g:α->Int}(ok:yK m g){k i:Int}{xs:List α}(hp:qX g (k,(i,(xs,())))=true)(hlt:i<(xs.length:Int))(d:α)
 {K:Int} {f:α->α} (hK:K=k+g (xs.getD i.toNat d)) (hf:f (xs.getD i.toNat d)=m (xs.getD i.toNat d) k):
 Rounds (qX g) aDe (aC8 m g) (k,(i,(xs,()))) (some (.inl (K,(wrap .i64 (i+1),(xs.modify i.toNat f,()))))):=by
 have hfa:=qY ok hp hlt d
 simp only[qX,Zb,Za] at hp
 obtain⟨h1,h2,h3,h4,h5⟩:=hp
 have hn:i.toNat<xs.length:=by omega
 rw[cX hn] at *
 have hpos:=ok.pos xs[i.toNat]
 have hd:(xs.modify i.toNat f).drop (i.toNat+1)=xs.drop (i.toNat+1):=by
  rw[List.drop_modify_of_lt];omega
 have ht:(xs.modify i.toNat f).take (i.toNat+1)=xs.take i.toNat++[m xs[i.toNat] k]:=by
  rw[List.take_add_one,Zm (by rw[List.length_modify];exact hn),List.getElem_modify,if_pos rfl,hf]
  congr 1
  apply List.ext_getElem?
  intro j
  rw[List.getElem?_take,List.getElem?_take]
  split
  . rw[List.getElem?_modify]
    have hne:¬i.toNat=j:=by omega
    simp only[hne,if_false]
    cases xs[j]?<;>rfl
  . rfl
 rw[Zn hn] at h5
 simp only[bK] at h5
 simp only[Rounds,lF (n:=i+1) (by omega) (by omega)]
 have ei:(i+1).toNat=i.toNat+1:=by omega
 refine⟨?_,by simp only[aDe,List.length_modify];omega,?_⟩
 . simp only[qX,Zb,Za,List.length_modify,ei,hd]
   omega
 . simp only[aC8,ei,hd,ht]
   conv=>rhs;rw[Zn hn]
   simp only[bK,oL,hK,Zk,List.cons_append,List.nil_append,Int.add_assoc]
theorem zE{m:α->Int->α}{g:α->Int}{k i:Int}{xs:List α}(hp:qX g (k,(i,(xs,())))=true)(hlt:¬i<(xs.length:Int)):
 Rounds (qX g) aDe (aC8 m g) (k,(i,(xs,()))) (some (.inr (k,(xs,())))):=by
 simp only[qX,Zb,Za] at hp
 obtain⟨h1,h2,h3,h4,h5⟩:=hp
 simp only[Rounds,aC8]
 rw[Zt (by omega),List.take_of_length_le (by omega)]
 simp[bK,oL]
def xY(g:α->Int)(xs:List α)(k:Int):Bool:=decide (0<=k)&&decide (k+bK g xs<=134217728)
theorem lP{g:α->Int}{xs:List α}{k:Int}:xY g xs k=true↔0<=k/\k+bK g xs<=134217728:=by simp[xY]
theorem sT{m:α->Int->α}{g:α->Int}(ok:yK m g){xs:List α}{k:Int}(h:xY g xs k=true):qX g (k,((0:Int),(xs,())))=true:=by
 rw[lP] at h
 have:=aAL ok xs
 simp only[qX,Zb,Za,Int.toNat_zero,List.drop_zero]
 omega
noncomputable def vG(m:α->Int->α)(g:α->Int)(x:α)(k:Int):Int:=cond (same x (m x k)) (k+g x) (-1)
theorem oO{m:α->Int->α}{g:α->Int}{x:α}{k:Int}(h:x=m x k):vG m g x k=k+g x:=by
 rw[vG,cF.2 h];rfl
theorem mF{m:α->Int->α}{g:α->Int}{x:α}{k:Int}(h:¬x=m x k):vG m g x k=-1:=by
 rw[vG,aM.2 h];rfl
theorem aI8{m:α->Int->α}{g:α->Int}(h1:∀x k,g (m x k)=g x)(h2:∀x k,m (m x k) k=m x k)(x:α)(k:Int):vG m g (m x k) k=k+g x:=by
 rw[oO (h2 x k).symm,h1]
abbrev HeS(α:Type):=List α×(Int×(Int×Unit))
def pW(g:α->Int):HeS α->Bool:=fun s=>decide (0<=s.2.1)&&(decide (0<=s.2.2.1)&&(decide (s.2.2.1.toNat<=s.1.length)&&(decide (s.1.length<=134217728)&&decide (s.2.1+bK g (s.1.drop s.2.2.1.toNat)<=134217728))))
noncomputable def aAz(m:α->Int->α)(g:α->Int):HeS α->(Int×Unit)⊕(Int×Unit):=fun s=>
 cond (same (s.1.drop s.2.2.1.toNat) (oL m g (s.1.drop s.2.2.1.toNat) s.2.1)) (.inr (s.2.1+bK g (s.1.drop s.2.2.1.toNat),())) (.inl (-1,()))
def aCS:HeS α->Nat:=fun s=>s.1.length-s.2.2.1.toNat
theorem uE{m:α->Int->α}{g:α->Int}(ok:yK m g){k i:Int}{xs:List α}(hp:pW g (xs,(k,(i,())))=true)(hlt:i<(xs.length:Int))(d:α):
 0<=i/\0<=k/\k+g (xs.getD i.toNat d)<=134217728:=by
 simp only[pW,Zb,Za] at hp
 obtain⟨h1,h2,h3,h4,h5⟩:=hp
 have hn:i.toNat<xs.length:=by omega
 rw[cX hn]
 rw[Zn hn] at h5
 have:=fV ok (xs.drop (i.toNat+1))
 simp only[bK] at h5
 exact⟨h2,h1,by omega⟩
theorem xB{m:α->Int->α}{g:α->Int}(ok:yK m g){k i:Int}{xs:List α}(hp:pW g (xs,(k,(i,())))=true)(hlt:i<(xs.length:Int))(d:α)
 {K:Int} (hK:K=k+g (xs.getD i.toNat d)) (he:xs.getD i.toNat d=m (xs.getD i.toNat d) k):
 Rounds (pW g) aCS (aAz m g) (xs,(k,(i,()))) (some (.inl (xs,(K,(wrap .i64 (i+1),()))))):=by
 simp only[pW,Zb,Za] at hp
 obtain⟨h1,h2,h3,h4,h5⟩:=hp
 have hn:i.toNat<xs.length:=by omega
 rw[cX hn] at *
 have hpos:=ok.pos xs[i.toNat]
 rw[Zn hn] at h5
 simp only[bK] at h5
 have ei:(i+1).toNat=i.toNat+1:=by omega
 simp only[Rounds,lF (n:=i+1) (by omega) (by omega)]
 refine⟨?_,by simp only[aCS];omega,?_⟩
 . simp only[pW,Zb,Za,ei]
   omega
 . simp only[aAz,ei]
   rw[Zn hn]
   simp only[oL,bK]
   subst hK
   by_cases hc:xs.drop (i.toNat+1)=oL m g (xs.drop (i.toNat+1)) (k+g xs[i.toNat])
   . rw[cF.2 hc,cF.2 (List.cons.injEq ..▸⟨he,hc⟩),Int.add_assoc]
   . rw[aM.2 hc,aM.2 (fun h=>hc (List.cons.inj h).2)];rfl
theorem aAx{m:α->Int->α}{g:α->Int}{k i:Int}{xs:List α}(hp:pW g (xs,(k,(i,())))=true)(hlt:i<(xs.length:Int))(d:α)
 (he:¬xs.getD i.toNat d=m (xs.getD i.toNat d) k):
 Rounds (pW g) aCS (aAz m g) (xs,(k,(i,()))) (some (.inr (.inl (-1,())))):=by
 simp only[pW,Zb,Za] at hp
 obtain⟨h1,h2,h3,h4,h5⟩:=hp
 have hn:i.toNat<xs.length:=by omega
 rw[cX hn] at he
 simp only[Rounds,aAz]
 rw[Zn hn]
 simp only[oL]
 rw[aM.2 (fun h=>he (List.cons.inj h).1)]
 rfl
theorem aAl{m:α->Int->α}{g:α->Int}{k i:Int}{xs:List α}(hp:pW g (xs,(k,(i,())))=true)(hlt:¬i<(xs.length:Int)):
 Rounds (pW g) aCS (aAz m g) (xs,(k,(i,()))) (some (.inr (.inr (k,())))):=by
 simp only[pW,Zb,Za] at hp
 obtain⟨h1,h2,h3,h4,h5⟩:=hp
 simp only[Rounds,aAz]
 rw[Zt (by omega)]
 simp only[oL,bK,Int.add_zero]
 rw[mH]
 rfl
theorem uB{m:α->Int->α}{g:α->Int}(ok:yK m g){xs:List α}{k:Int}(h:xY g xs k=true):pW g (xs,(k,((0:Int),())))=true:=by
 rw[lP] at h
 have:=aAL ok xs
 simp only[pW,Zb,Za,Int.toNat_zero,List.drop_zero]
 omega
theorem qF{m:α->Int->α}{g:α->Int}(xs:List α)(k:Int):
 (match aAz m g (xs,(k,((0:Int),()))) with|.inl y=>some ((),y)|.inr y=>some ((),y))=some ((),(vG (oL m g) (bK g) xs k,())):=by
 have e:aAz m g (xs,(k,((0:Int),())))=cond (same xs (oL m g xs k)) (.inr (k+bK g xs,())) (.inl (-1,())):=rfl
 rw[e]
 by_cases h:xs=oL m g xs k
 . rw[cF.2 h,oO h];rfl
 . rw[aM.2 h,mF h];rfl
def szN(w l:Int):Int:=if l-w<0 then -1 else l-w
theorem aCh{w l:Int}(h:¬l-w<0):szN w l=l-w:=if_neg h
theorem aA5{w l:Int}(h:l-w<0):szN w l=-1:=if_pos h
def aAX(w:α->Int):List α->Int
 |[]=>0
 |a::r=>w a+aAX w r
def wL(w:α->Int)(xs:List α):Int:=xs.length+aAX w xs
theorem aCp{w:α->Int}(h:∀x,0<=w x):(xs:List α)->0<=aAX w xs
 |[]=>by simp[aAX]
 |a::r=>by
  have:=h a
  have:=aCp h r
  simp only[aAX];omega
theorem aKZ{w:α->Int}(h:∀x,0<=w x)(xs:List α):(xs.length:Int)<=wL w xs:=by
 have:=aCp h xs
 simp only[wL];omega
def uI:SzS α->Bool:=fun s=>decide (s.1.length<=maxLen)&&(decide (0<=s.2.2.1)&&(decide (s.2.2.1.toNat<=s.1.length)&&(decide (0<=s.2.1)&&decide (s.2.1<=maxLen))))
def aFj(w:α->Int):SzS α->(Int×Unit)⊕(Int×Unit):=fun s=>if s.2.1-aAX w (s.1.drop s.2.2.1.toNat)<0 then .inl (-1,()) else .inr (s.2.1-aAX w (s.1.drop s.2.2.1.toNat),())
theorem aJU{l i:Int}{xs:List α}(hp:uI (xs,(l,(i,())))=true):0<=i/\0<=l/\l<=maxLen:=by
 simp only[uI,Zb,Za] at hp
 exact⟨hp.2.1,hp.2.2.2.1,hp.2.2.2.2⟩
theorem aL8{w:α->Int}(hw:∀x,0<=w x){l i:Int}{xs:List α}(hp:uI (xs,(l,(i,())))=true)(hlt:i<(xs.length:Int))(d:α)
 (h:l-w (xs.getD i.toNat d)<0):Rounds uI aJI (aFj w) (xs,(l,(i,()))) (some (.inr (.inl (-1,())))):=by
 simp only[uI,Zb,Za] at hp
 obtain⟨h1,h2,h3,h4,h5⟩:=hp
 have hn:i.toNat<xs.length:=by omega
 rw[cX hn] at h
 have:=aCp hw (xs.drop (i.toNat+1))
 simp only[Rounds,aFj]
 rw[Zn hn,if_pos (by simp only[aAX];omega)]
theorem aKv{w:α->Int}(hw:∀x,0<=w x){l i:Int}{xs:List α}(hp:uI (xs,(l,(i,())))=true)(hlt:i<(xs.length:Int))(d:α)
 (h:¬l-w (xs.getD i.toNat d)<0):Rounds uI aJI (aFj w) (xs,(l,(i,()))) (some (.inl (xs,(l-w (xs.getD i.toNat d),(wrap .i64 (i+1),()))))):=by
 simp only[uI,Zb,Za] at hp
 obtain⟨h1,h2,h3,h4,h5⟩:=hp
 have hM:=qJ
 have hn:i.toNat<xs.length:=by omega
 rw[cX hn] at h ⊢
 have:=hw xs[i.toNat]
 have ei:(i+1).toNat=i.toNat+1:=by omega
 simp only[Rounds,lF (n:=i+1) (by omega) (by omega)]
 refine⟨?_,by simp only[aJI];omega,?_⟩
 . simp only[uI,Zb,Za,ei];omega
 . simp only[aFj,ei]
   rw[Zn hn]
   simp only[aAX,Int.sub_sub]
   rfl
theorem aLs{w:α->Int}{l i:Int}{xs:List α}(hp:uI (xs,(l,(i,())))=true)(hlt:¬i<(xs.length:Int)):
 Rounds uI aJI (aFj w) (xs,(l,(i,()))) (some (.inr (.inr (l,())))):=by
 simp only[uI,Zb,Za] at hp
 obtain⟨h1,h2,h3,h4,h5⟩:=hp
 simp only[Rounds,aFj]
 rw[Zt (by omega)]
 simp only[aAX,Int.sub_zero]
 rw[if_neg (by omega)]
theorem aJn{xs:List α}(h:xs.length<=maxLen){l:Int}(h0:0<=l)(h1:l<=maxLen):uI (xs,(l,((0:Int),())))=true:=by
 simp only[uI,Zb,Za];omega
theorem aGS{w:α->Int}(xs:List α)(l:Int):
 (match aFj w (xs,(l-xs.length,((0:Int),()))) with|.inl y=>some ((),y)|.inr y=>some ((),y))=some ((),(szN (wL w xs) l,())):=by
 have e:aFj w (xs,(l-xs.length,((0:Int),())))=if l-xs.length-aAX w xs<0 then .inl (-1,()) else .inr (l-xs.length-aAX w xs,()):=rfl
 have e2:l-wL w xs=l-xs.length-aAX w xs:=by simp only[wL,Int.sub_sub]
 rw[e]
 by_cases h:l-xs.length-aAX w xs<0
 . rw[if_pos h,aA5 (by omega)]
 . rw[if_neg h,aCh (by omega),e2]
def aL1(p:α->Bool):ToS α->Prop:=fun s=>aJH s/\s.1.all p=true
open Classical in
noncomputable def xU(p:α->Bool)(s:ToS α):Bool:=decide (aL1 p s)
theorem uH{p:α->Bool}{s:ToS α}:xU p s=true↔aL1 p s:=by simp[xU]
theorem aJ1{p:α->Bool}{x1:List α}{x2:Int}{x3:List α}(hp:xU p (x1,(x2,(x3,())))=true)(hlt:x2<(x1.length:Int))(d:α):
 x2<(x3.length:Int)/\0<=x2/\p (x1.getD x2.toNat d)=true:=by
 rw[uH] at hp
 obtain⟨⟨h1,h2,h3,h4,h5⟩,h6⟩:=hp
 simp only[] at h1 h2 h3 h4 h5 h6
 refine⟨by omega,h2,?_⟩
 rw[cX (by omega)]
 exact Zu.1 h6 _ (List.getElem_mem _)
theorem aKR{p:α->Bool}{x1:List α}{x2:Int}{x3:List α}(hp:xU p (x1,(x2,(x3,())))=true)(hlt:x2<(x1.length:Int))(d:α){f:α->α}(hf:f=fun _=>x1.getD x2.toNat d):
 Rounds (xU p) aIU aIu (x1,(x2,(x3,()))) (some (.inl (x1,(wrap .i64 (x2+1),(x3.modify x2.toNat f,()))))):=by
 rw[uH] at hp
 have:=(aKh (pD.2 hp.1) hlt d).2.2
 rw[hf]
 simp only[Rounds] at *
 refine⟨?_,this.2.1,this.2.2⟩
 rw[uH]
 exact⟨pD.1 this.1,hp.2⟩
theorem aL7{p:α->Bool}{x1:List α}{x2:Int}{x3:List α}(hp:xU p (x1,(x2,(x3,())))=true)(hlt:¬x2<(x1.length:Int)):
 Rounds (xU p) aIU aIu (x1,(x2,(x3,()))) (some (.inr (x3,()))):=by
 rw[uH] at hp
 exact aLq (pD.2 hp.1) hlt
theorem aJF{p:α->Bool}{x:List α}(h:x.length<=maxLen)(ha:x.all p=true)(d:α):xU p (x,((0:Int),(List.replicate (Int.toNat ((x.length:Nat):Int)) d,())))=true:=by
 rw[uH]
 exact⟨pD.1 (aJ5 h d),ha⟩
end
def oX(_:Int)(k:Int):Int:=k
def bQ(_:Int):Int:=1
theorem fU:yK oX bQ:=⟨fun _=>Int.le_refl _,fun _ _=>rfl,fun _ _=>rfl⟩
noncomputable def dV(a b:List Int):Bool:=same a b
namespace dV
def pre4:=rV (α:=Int)
noncomputable def fn4:=yL (α:=Int)
def lN:=aCc (α:=Int)
noncomputable def eA(x1:(List Int))(x2:(List Int))(x3:Int):Option (((List Int)×((List Int)×(Int×Unit)))⊕((Bool×Unit)⊕Unit)):=
 if(decide (x3<((length x1:Nat):Int)))=true then
 if(decide ((0:Int)<=x3))=true then
 if(decide (x3<((length x1:Nat):Int)))=true then
 if(decide ((0:Int)<=x3))=true then
 if(decide (x3<((length x2:Nat):Int)))=true then
 if(!(decide ((List.getD x1 (Int.toNat x3) (0:Int))=(List.getD x2 (Int.toNat x3) (0:Int)))))=true then
 some (.inr (.inl (false,())))
 else
 some (.inl (x1,(x2,((wrap .i64 (x3+(1:Int))),()))))
 else
 none
 else
 none
 else
 none
 else
 none
 else
 some (.inr (.inr ()))
abbrev wf(x0:(List Int))(x1:(List Int)):Prop:=hN [(.val (.sl 0 (.int .i64)) .f),(.val (.sl 0 (.int .i64)) .f)] (x0,(x1,()))
noncomputable def aQ(x0:(List Int))(x1:(List Int)):Option mO:=
 if(!(decide (((length x0:Nat):Int)=((length x1:Nat):Int))))=true then
  some ((),(false,()))
 else
  if(dV.pre4 (x0,(x1,((0:Int),()))))=true then
   letB (dV.fn4 (x0,(x1,((0:Int),())))) fun v1=>
   match v1 with
   |.inl y=>
    some ((),y)
   |.inr y=>
    some ((),(true,()))
  else
   none
theorem uM(x1 x2:List Int)(x3:Int)(hp:pre4 (x1,(x2,(x3,())))=true):Rounds pre4 lN fn4 (x1,(x2,(x3,()))) (eA x1 x2 x3):=by
 unfold eA
 by_cases hlt:x3<(x1.length:Int)
 . obtain⟨h1,h2,h3,h4⟩:=uS hp hlt (0:Int)
   simp only[letB,hlt,h1,h2,decide_true,if_true]
   by_cases h:x1.getD x3.toNat (0:Int)=x2.getD x3.toNat (0:Int)
   . rw[if_neg (by simp only[h,decide_true,Bool.not_true,Zj,not_false_eq_true])];exact h3 h
   . rw[if_pos (by simp only[h,decide_false,Bool.not_false])];exact h4 h
 . simp only[hlt,decide_false,Zj,if_false]
   exact yP hp hlt
theorem eq(x0 x1:List Int)(hw:wf x0 x1):aQ x0 x1=some ((),(dV x0 x1,())):=by
 have h1:x0.length<=maxLen:=hw.1.1
 unfold aQ dV
 by_cases hl:(x0.length:Int)=(x1.length:Int)
 . rw[if_neg (by simp[hl]),if_pos (show pre4 _=true from sR h1 hl)]
   unfold fn4
   by_cases he:x0=x1
   . rw[uW he,cF.2 he];rfl
   . rw[uQ he,aM.2 he];rfl
 . have:¬x0=x1:=fun h=>hl (by rw[h])
   rw[if_pos (by simp[hl]),aM.2 this]
end dV
def bO(xs:List Int)(k:Int):List Int×Int:=(oL oX bQ xs k,k+bK bQ xs)
namespace bO
def pre(xs:List Int)(k:Int):Bool:=xY bQ xs k
def pre2:=qX bQ
def fn2:=aC8 oX bQ
def mA:=aDe (α:=Int)
noncomputable def dT(x1:Int)(x2:Int)(x3:(List Int)):Option ((Int×(Int×((List Int)×Unit)))⊕(Int×((List Int)×Unit))):=
 if(decide (x2<((length x3:Nat):Int)))=true then
 if(decide ((0:Int)<=x2))=true then
 if(decide (x2<((length x3:Nat):Int)))=true then
 some (.inl ((wrap .i64 (x1+(1:Int))),((wrap .i64 (x2+(1:Int))),((List.modify x3 (Int.toNat x2) (fun z=>x1)),()))))
 else
 none
 else
 none
 else
 some (.inr (x1,(x3,())))
abbrev wf(x0:(List Int))(x1:Int):Prop:=hN [(.mut (.sl 0 (.int .i64))),(.val (.int .i64) .f)] (x0,(x1,()))
noncomputable def aQ(x0:(List Int))(x1:Int):Option (((List Int)×Unit)×(Int×Unit)):=
 if(bO.pre2 (x1,((0:Int),(x0,()))))=true then
 letB (bO.fn2 (x1,((0:Int),(x0,())))) fun v1=>
 some (v1.2,(v1.1,()))
 else
 none
theorem rR(x1 x2:Int)(x3:List Int)(hp:pre2 (x1,(x2,(x3,())))=true):Rounds pre2 mA fn2 (x1,(x2,(x3,()))) (dT x1 x2 x3):=by
 unfold dT
 by_cases hlt:x2<(x3.length:Int)
 . obtain⟨h0,hk,hc,hn⟩:=qY fU hp hlt (0:Int)
   generalize he:x3.getD x2.toNat (0:Int)=e at hc
   simp only[bQ] at hc
   have w0:wrap .i64 (x1+1)=x1+1:=lF (by omega) (by omega)
   simp only[letB,List.length_modify,List.modify_modify_eq,nU hn,Function.comp,hlt,h0,he,decide_true,if_true,w0]
   exact vF fU hp hlt (0:Int) (by rw[he];simp only[bQ]) (by rw[he];rfl)
 . rw[if_neg (by simp[hlt])];exact zE hp hlt
theorem eq(x0:List Int)(x1:Int)(_:wf x0 x1)(hp:pre x0 x1=true):aQ x0 x1=some (((bO x0 x1).1,()),((bO x0 x1).2,())):=by
 unfold aQ
 rw[if_pos (show pre2 _=true from sT fU hp)]
 rfl
end bO
theorem aBZ(xs:List Int)(k:Int):bO xs k=(oL oX bQ xs k,k+bK bQ xs):=rfl
theorem tJ{xs:List Int}{k:Int}(h0:0<=k)(h1:k+bK bQ xs<=134217728):bO.pre xs k=true:=lP.2 ⟨h0,h1⟩
noncomputable def bG(xs:List Int)(k:Int):Int:=vG (oL oX bQ) (bK bQ) xs k
namespace bG
def pre(xs:List Int)(k:Int):Bool:=xY bQ xs k
def pre2:=pW bQ
noncomputable def fn2:=aAz oX bQ
def mA:=aCS (α:=Int)
noncomputable def dT(x1:(List Int))(x2:Int)(x3:Int):Option (((List Int)×aY)⊕((Int×Unit)⊕(Int×Unit))):=
 if(decide (x3<((length x1:Nat):Int)))=true then
 if(decide ((0:Int)<=x3))=true then
 if(decide (x3<((length x1:Nat):Int)))=true then
 if(!(decide ((List.getD x1 (Int.toNat x3) (0:Int))=x2)))=true then
 some (.inr (.inl ((-1:Int),())))
 else
 some (.inl (x1,((wrap .i64 (x2+(1:Int))),((wrap .i64 (x3+(1:Int))),()))))
 else
 none
 else
 none
 else
 some (.inr (.inr (x2,())))
abbrev wf(x0:(List Int))(x1:Int):Prop:=hN [(.val (.sl 0 (.int .i64)) .f),(.val (.int .i64) .f)] (x0,(x1,()))
noncomputable def aQ(x0:(List Int))(x1:Int):Option uK:=
 if(bG.pre2 (x0,(x1,((0:Int),()))))=true then
  letB (bG.fn2 (x0,(x1,((0:Int),())))) fun v1=>
  match v1 with
  |.inl y=>
   some ((),y)
  |.inr y=>
   some ((),y)
 else
  none
theorem rR(x1:List Int)(x2 x3:Int)(hp:pre2 (x1,(x2,(x3,())))=true):Rounds pre2 mA fn2 (x1,(x2,(x3,()))) (dT x1 x2 x3):=by
 unfold dT
 by_cases hlt:x3<(x1.length:Int)
 . obtain⟨h0,hk,hc⟩:=uE fU hp hlt (0:Int)
   have bad:=aAx (m:=oX) (g:=bQ) hp hlt (0:Int)
   have good:=fun K hK=>xB fU (K:=K) hp hlt (0:Int) hK
   generalize x1.getD x3.toNat (0:Int)=e at *
   simp only[bQ] at hc
   have w0:wrap .i64 (x2+1)=x2+1:=lF (by omega) (by omega)
   simp only[letB,hlt,h0,decide_true,if_true,w0]
   by_cases c:e=x2
   case neg=>rw[if_pos (by simp[c])];exact bad c
   rw[if_neg (by simp[c])]
   exact good _ (by simp only[bQ]) c
 . rw[if_neg (by simp[hlt])];exact aAl hp hlt
theorem eq(x0:List Int)(x1:Int)(_:wf x0 x1)(hp:pre x0 x1=true):aQ x0 x1=some ((),(bG x0 x1,())):=by
 unfold aQ
 rw[if_pos (show pre2 _=true from uB fU hp)]
 exact qF x0 x1
end bG
theorem tK{xs:List Int}{k:Int}(h:xs=oL oX bQ xs k):bG xs k=k+bK bQ xs:=oO h
theorem tH{xs:List Int}{k:Int}(h:¬xs=oL oX bQ xs k):bG xs k=-1:=mF h
theorem tL{xs:List Int}{k:Int}(h0:0<=k)(h1:k+bK bQ xs<=134217728):bG.pre xs k=true:=lP.2 ⟨h0,h1⟩
def aHj(_:eO)(k:Int):eO:=(k,(k+1,(k+1+1,(k+1+1+1,(k+1+1+1+1,(k+1+1+1+1+1,(aG (k+1+1+1+1+1+1),(aG (k+1+1+1+1+1+1+1),()))))))))
def rM(_:eO):Int:=8
theorem zZ:yK aHj rM:=⟨fun _=>by simp only[rM];decide,fun _ _=>rfl,fun _ _=>rfl⟩
def uN(x:eO):Int:=(x.2.2.2.2.2.2.1.length:Int)+(x.2.2.2.2.2.2.2.1.length:Int)
theorem yW(x:eO):0<=uN x:=by
 simp only[uN];omega
noncomputable def lX(a b:eO):Bool:=same a b
namespace lX
abbrev wf(x0:eO)(x1:eO):Prop:=hN [(.val zk6 .f),(.val zk6 .f)] (x0,(x1,()))
noncomputable def aQ(x0:eO)(x1:eO):Option mO:=
 if(!(decide (x0.1=x1.1)))=true then
 some ((),(false,()))
 else
 if(!(decide (x0.2.1=x1.2.1)))=true then
 some ((),(false,()))
 else
 if(!(decide (x0.2.2.1=x1.2.2.1)))=true then
 some ((),(false,()))
 else
 if(!(decide (x0.2.2.2.1=x1.2.2.2.1)))=true then
 some ((),(false,()))
 else
 if(!(decide (x0.2.2.2.2.1=x1.2.2.2.2.1)))=true then
 some ((),(false,()))
 else
 if(!(decide (x0.2.2.2.2.2.1=x1.2.2.2.2.2.1)))=true then
 some ((),(false,()))
 else
 if(!(x0.2.2.2.2.2.2.1==x1.2.2.2.2.2.2.1))=true then
 some ((),(false,()))
 else
 if(!(x0.2.2.2.2.2.2.2.1==x1.2.2.2.2.2.2.2.1))=true then
 some ((),(false,()))
 else
 some ((),(true,()))
theorem eq(x0 x1:eO)(_:wf x0 x1):aQ x0 x1=some ((),(lX x0 x1,())):=by
 unfold aQ lX
 try simp only[letB]
 by_cases c0:x0.1=x1.1
 case neg=>rw[if_pos (by simp[c0]),aM.2 (fun h=>c0 (congrArg (fun z:eO=>z.1) h))]
 rw[if_neg (by simp[c0])]
 by_cases c1:x0.2.1=x1.2.1
 case neg=>rw[if_pos (by simp[c1]),aM.2 (fun h=>c1 (congrArg (fun z:eO=>z.2.1) h))]
 rw[if_neg (by simp[c1])]
 by_cases c2:x0.2.2.1=x1.2.2.1
 case neg=>rw[if_pos (by simp[c2]),aM.2 (fun h=>c2 (congrArg (fun z:eO=>z.2.2.1) h))]
 rw[if_neg (by simp[c2])]
 by_cases c3:x0.2.2.2.1=x1.2.2.2.1
 case neg=>rw[if_pos (by simp[c3]),aM.2 (fun h=>c3 (congrArg (fun z:eO=>z.2.2.2.1) h))]
 rw[if_neg (by simp[c3])]
 by_cases c4:x0.2.2.2.2.1=x1.2.2.2.2.1
 case neg=>rw[if_pos (by simp[c4]),aM.2 (fun h=>c4 (congrArg (fun z:eO=>z.2.2.2.2.1) h))]
 rw[if_neg (by simp[c4])]
 by_cases c5:x0.2.2.2.2.2.1=x1.2.2.2.2.2.1
 case neg=>rw[if_pos (by simp[c5]),aM.2 (fun h=>c5 (congrArg (fun z:eO=>z.2.2.2.2.2.1) h))]
 rw[if_neg (by simp[c5])]
 by_cases c6:x0.2.2.2.2.2.2.1=x1.2.2.2.2.2.2.1
 case neg=>rw[if_pos (by simp[c6]),aM.2 (fun h=>c6 (congrArg (fun z:eO=>z.2.2.2.2.2.2.1) h))]
 rw[if_neg (by simp[c6])]
 by_cases c7:x0.2.2.2.2.2.2.2.1=x1.2.2.2.2.2.2.2.1
 case neg=>rw[if_pos (by simp[c7]),aM.2 (fun h=>c7 (congrArg (fun z:eO=>z.2.2.2.2.2.2.2.1) h))]
 rw[if_neg (by simp[c7])]
 rw[cF.2 (Prod.ext c0 (Prod.ext c1 (Prod.ext c2 (Prod.ext c3 (Prod.ext c4 (Prod.ext c5 (Prod.ext c6 (Prod.ext c7 rfl))))))))]
end lX
def oC(x:eO):eO:=x
namespace oC
abbrev wf(x0:eO):Prop:=hN [(.val zk6 .f)] (x0,())
noncomputable def aQ(x0:eO):Option (Unit×(eO×Unit)):=
 some ((),(x0,()))
theorem eq(x0:eO)(_:wf x0):aQ x0=some ((),(oC x0,())):=rfl
end oC
def gP(x:eO)(l:Int):Int:=szN (uN x) l
namespace gP
def pre(_:eO)(l:Int):Bool:=decide (0<=l)&&decide (l<=maxLen)
abbrev wf(x0:eO)(x1:Int):Prop:=hN [(.val zk6 .f),(.val (.int .i64) .f)] (x0,(x1,()))
noncomputable def aQ(x0:eO)(x1:Int):Option uK:=
 if(decide ((wrap .i64 (x1-((length x0.2.2.2.2.2.2.1:Nat):Int)))<(0:Int)))=true then
 some ((),((-1:Int),()))
 else
 if(decide ((wrap .i64 ((wrap .i64 (x1-((length x0.2.2.2.2.2.2.1:Nat):Int)))-((length x0.2.2.2.2.2.2.2.1:Nat):Int)))<(0:Int)))=true then
 some ((),((-1:Int),()))
 else
 some ((),((wrap .i64 ((wrap .i64 (x1-((length x0.2.2.2.2.2.2.1:Nat):Int)))-((length x0.2.2.2.2.2.2.2.1:Nat):Int))),()))
theorem eq(x0:eO)(x1:Int)(hw:wf x0 x1)(hp:pre x0 x1=true):aQ x0 x1=some ((),(gP x0 x1,())):=by
 simp only[pre,Zb,Za] at hp
 have hM:=qJ
 have t6:x0.2.2.2.2.2.2.1.length<=maxLen:=hw.1.2.2.2.2.2.2.1
 have t7:x0.2.2.2.2.2.2.2.1.length<=maxLen:=hw.1.2.2.2.2.2.2.2.1
 unfold aQ
 try simp only[letB]
 rw[lF (n:=x1-(x0.2.2.2.2.2.2.1.length:Int)) (by omega) (by omega)]
 by_cases c6:x1-(x0.2.2.2.2.2.2.1.length:Int)<0
 . rw[if_pos (Zd c6),show gP x0 x1=-1 from aA5 (by simp only[uN];omega)]
 rw[if_neg (by rw[Za];exact c6)]
 rw[lF (n:=x1-(x0.2.2.2.2.2.2.1.length:Int)-(x0.2.2.2.2.2.2.2.1.length:Int)) (by omega) (by omega)]
 by_cases c7:x1-(x0.2.2.2.2.2.2.1.length:Int)-(x0.2.2.2.2.2.2.2.1.length:Int)<0
 . rw[if_pos (Zd c7),show gP x0 x1=-1 from aA5 (by simp only[uN];omega)]
 rw[if_neg (by rw[Za];exact c7)]
 rw[show gP x0 x1=x1-(x0.2.2.2.2.2.2.1.length:Int)-(x0.2.2.2.2.2.2.2.1.length:Int) from by rw[gP,aCh (by simp only[uN];omega)];simp only[uN];omega]
end gP
noncomputable def jH(a b:List eO):Bool:=same a b
namespace jH
def pre4:=rV (α:=eO)
noncomputable def fn4:=yL (α:=eO)
def lN:=aCc (α:=eO)
noncomputable def eA(x1:(List eO))(x2:(List eO))(x3:Int):Option (((List eO)×((List eO)×(Int×Unit)))⊕((Bool×Unit)⊕Unit)):=
 if(decide (x3<((length x1:Nat):Int)))=true then
 if(decide ((0:Int)<=x3))=true then
 if(decide (x3<((length x1:Nat):Int)))=true then
 if(decide ((0:Int)<=x3))=true then
 if(decide (x3<((length x2:Nat):Int)))=true then
 letB (lX (List.getD x1 (Int.toNat x3) sH) (List.getD x2 (Int.toNat x3) sH)) fun v1=>
 if(!v1)=true then
 some (.inr (.inl (false,())))
 else
 some (.inl (x1,(x2,((wrap .i64 (x3+(1:Int))),()))))
 else
 none
 else
 none
 else
 none
 else
 none
 else
 some (.inr (.inr ()))
abbrev wf(x0:(List eO))(x1:(List eO)):Prop:=hN [(.val (.sl 0 zk6) .f),(.val (.sl 0 zk6) .f)] (x0,(x1,()))
noncomputable def aQ(x0:(List eO))(x1:(List eO)):Option mO:=
 if(!(decide (((length x0:Nat):Int)=((length x1:Nat):Int))))=true then
  some ((),(false,()))
 else
  if(jH.pre4 (x0,(x1,((0:Int),()))))=true then
   letB (jH.fn4 (x0,(x1,((0:Int),())))) fun v1=>
   match v1 with
   |.inl y=>
    some ((),y)
   |.inr y=>
    some ((),(true,()))
  else
   none
theorem uM(x1 x2:List eO)(x3:Int)(hp:pre4 (x1,(x2,(x3,())))=true):Rounds pre4 lN fn4 (x1,(x2,(x3,()))) (eA x1 x2 x3):=by
 unfold eA
 by_cases hlt:x3<(x1.length:Int)
 . obtain⟨h1,h2,h3,h4⟩:=uS hp hlt sH
   simp only[letB,hlt,h1,h2,decide_true,if_true]
   by_cases h:x1.getD x3.toNat sH=x2.getD x3.toNat sH
   . rw[if_neg (by rw[lX,cF.2 h];simp)];exact h3 h
   . rw[if_pos (by rw[lX,aM.2 h];rfl)];exact h4 h
 . simp only[hlt,decide_false,Zj,if_false]
   exact yP hp hlt
theorem eq(x0 x1:List eO)(hw:wf x0 x1):aQ x0 x1=some ((),(jH x0 x1,())):=by
 have h1:x0.length<=maxLen:=hw.1.1
 unfold aQ jH
 by_cases hl:(x0.length:Int)=(x1.length:Int)
 . rw[if_neg (by simp[hl]),if_pos (show pre4 _=true from sR h1 hl)]
   unfold fn4
   by_cases he:x0=x1
   . rw[uW he,cF.2 he];rfl
   . rw[uQ he,aM.2 he];rfl
 . have:¬x0=x1:=fun h=>hl (by rw[h])
   rw[if_pos (by simp[hl]),aM.2 this]
end jH
def eW(xs:List eO):List eO:=xs
namespace eW
def pre(xs:List eO):Bool:=cH xs&&xs.all (fun _=>true)
noncomputable def pre3:=xU (α:=eO) (fun _=>true)
def fn3:=aIu (α:=eO)
def mu3:=aIU (α:=eO)
noncomputable def aDk(x1:(List eO))(x2:Int)(x3:(List eO)):Option (((List eO)×(Int×((List eO)×Unit)))⊕((List eO)×Unit)):=
 if(decide (x2<((length x1:Nat):Int)))=true then
 if(decide ((0:Int)<=x2))=true then
 if(decide (x2<((length x1:Nat):Int)))=true then
 if(decide ((0:Int)<=x2))=true then
 if(decide (x2<((length x3:Nat):Int)))=true then
 some (.inl (x1,((wrap .i64 (x2+(1:Int))),((List.modify x3 (Int.toNat x2) (fun z=>(oC (List.getD x1 (Int.toNat x2) sH)))),()))))
 else
 none
 else
 none
 else
 none
 else
 none
 else
 some (.inr (x3,()))
abbrev wf(x0:(List eO)):Prop:=hN [(.val (.sl 0 zk6) .f)] (x0,())
noncomputable def aQ(x0:(List eO)):Option (Unit×((List eO)×Unit)):=
 if(decide ((0:Int)<=((length x0:Nat):Int)))=true then
 if(decide (((length x0:Nat):Int)<=((length x0:Nat):Int)))=true then
 if(decide (((length x0:Nat):Int)<=(4294967296:Int)))=true then
 if(eW.pre3 (x0,((0:Int),((List.replicate (Int.toNat ((length x0:Nat):Int)) sH),()))))=true then
 letB (eW.fn3 (x0,((0:Int),((List.replicate (Int.toNat ((length x0:Nat):Int)) sH),())))) fun v1=>
 some ((),v1)
 else
 none
 else
 none
 else
 none
 else
 none
theorem ok3(x1:List eO)(x2:Int)(x3:List eO)(hp:pre3 (x1,(x2,(x3,())))=true):Rounds pre3 mu3 fn3 (x1,(x2,(x3,()))) (aDk x1 x2 x3):=by
 unfold aDk
 by_cases hlt:x2<(x1.length:Int)
 . obtain⟨h1,h2,h3⟩:=aJ1 hp hlt sH
   simp only[letB,hlt,h1,h2,h3,decide_true,if_true]
   exact aKR hp hlt sH rfl
 . rw[if_neg (by simp[hlt])];exact aL7 hp hlt
theorem eq(x0:List eO)(hw:wf x0)(hp:pre x0=true):aQ x0=some ((),(eW x0,())):=by
 have h1:x0.length<=maxLen:=hw.1.1
 simp only[pre,Zb,bW] at hp
 unfold aQ
 rw[if_pos (by simp),if_pos (by simp),if_pos (by simp;omega),if_pos (show pre3 _=true from aJF h1 hp.2 _)]
 rfl
end eW
theorem aHr{xs:List eO}(h:wL uN xs<=16777216):eW.pre xs=true:=by
 have hl:=aKZ yW xs
 simp only[eW.pre,Zb,bW]
 exact⟨by omega,by simp⟩
def fX(xs:List eO)(l:Int):Int:=szN (wL uN xs) l
namespace fX
def pre(_:List eO)(l:Int):Bool:=decide (0<=l)&&decide (l<=maxLen)
def pre5:=uI (α:=eO)
def fn5:=aFj uN
def mu5:=aJI (α:=eO)
noncomputable def rA(x1:(List eO))(x2:Int)(x3:Int):Option (((List eO)×aY)⊕((Int×Unit)⊕(Int×Unit))):=
 if(decide (x3<((length x1:Nat):Int)))=true then
 if(decide ((0:Int)<=x3))=true then
 if(decide (x3<((length x1:Nat):Int)))=true then
 if(gP.pre (List.getD x1 (Int.toNat x3) sH) x2)=true then
 letB (gP (List.getD x1 (Int.toNat x3) sH) x2) fun v1=>
 if(decide (v1<(0:Int)))=true then
 some (.inr (.inl ((-1:Int),())))
 else
 some (.inl (x1,(v1,((wrap .i64 (x3+(1:Int))),()))))
 else
 none
 else
 none
 else
 none
 else
 some (.inr (.inr (x2,())))
abbrev wf(x0:(List eO))(x1:Int):Prop:=hN [(.val (.sl 0 zk6) .f),(.val (.int .i64) .f)] (x0,(x1,()))
noncomputable def aQ(x0:(List eO))(x1:Int):Option uK:=
 if(decide ((wrap .i64 (x1-((length x0:Nat):Int)))<(0:Int)))=true then
  some ((),((-1:Int),()))
 else
  if(fX.pre5 (x0,((wrap .i64 (x1-((length x0:Nat):Int))),((0:Int),()))))=true then
   letB (fX.fn5 (x0,((wrap .i64 (x1-((length x0:Nat):Int))),((0:Int),())))) fun v1=>
   match v1 with
   |.inl y=>
    some ((),y)
   |.inr y=>
    some ((),y)
  else
   none
theorem ok5(x1:List eO)(x2 x3:Int)(hp:pre5 (x1,(x2,(x3,())))=true):Rounds pre5 mu5 fn5 (x1,(x2,(x3,()))) (rA x1 x2 x3):=by
 unfold rA
 by_cases hlt:x3<(x1.length:Int)
 . obtain⟨h0,h1,h2⟩:=aJU hp
   have q:gP.pre (x1.getD x3.toNat sH) x2=true:=by simp only[gP.pre,Zb,Za];exact⟨h1,h2⟩
   simp only[letB,hlt,h0,q,decide_true,if_true]
   by_cases c:x2-uN (x1.getD x3.toNat sH)<0
   . rw[show gP (x1.getD x3.toNat sH) x2=-1 from aA5 c,if_pos (by decide)];exact aL8 yW hp hlt sH c
   . rw[show gP (x1.getD x3.toNat sH) x2=x2-uN (x1.getD x3.toNat sH) from aCh c,if_neg (by rw[Za];exact c)];exact aKv yW hp hlt sH c
 . rw[if_neg (by simp[hlt])];exact aLs hp hlt
theorem eq(x0:List eO)(x1:Int)(hw:wf x0 x1)(hp:pre x0 x1=true):aQ x0 x1=some ((),(fX x0 x1,())):=by
 have h1:x0.length<=maxLen:=hw.1.1
 simp only[pre,Zb,Za] at hp
 have hM:=qJ
 have hnn:=aCp yW x0
 unfold aQ
 rw[lF (n:=x1-(x0.length:Int)) (by omega) (by omega)]
 by_cases c:x1-(x0.length:Int)<0
 . rw[if_pos (Zd c),show fX x0 x1=-1 from aA5 (by simp only[wL];omega)]
 . rw[if_neg (by rw[Za];exact c),if_pos (show pre5 _=true from aJn h1 (by omega) (by omega))]
   exact aGS x0 x1
end fX
def fK(xs:List eO)(k:Int):List eO×Int:=(oL aHj rM xs k,k+bK rM xs)
namespace fK
def pre(xs:List eO)(k:Int):Bool:=xY rM xs k
def pre2:=qX rM
def fn2:=aC8 aHj rM
def mA:=aDe (α:=eO)
noncomputable def dT(x1:Int)(x2:Int)(x3:(List eO)):Option ((Int×(Int×((List eO)×Unit)))⊕(Int×((List eO)×Unit))):=
 if(decide (x2<((length x3:Nat):Int)))=true then
 if(decide ((0:Int)<=x2))=true then
 if(decide (x2<((length x3:Nat):Int)))=true then
 if(decide ((0:Int)<=x2))=true then
 if(decide (x2<((length (List.modify x3 (Int.toNat x2) (fun z=>(x1,z.2))):Nat):Int)))=true then
 if(decide ((0:Int)<=x2))=true then
 if(decide (x2<((length (List.modify (List.modify x3 (Int.toNat x2) (fun z=>(x1,z.2))) (Int.toNat x2) (fun z=>(z.1,((wrap .i64 (x1+(1:Int))),z.2.2)))):Nat):Int)))=true then
 if(decide ((0:Int)<=x2))=true then
 if(decide (x2<((length (List.modify (List.modify (List.modify x3 (Int.toNat x2) (fun z=>(x1,z.2))) (Int.toNat x2) (fun z=>(z.1,((wrap .i64 (x1+(1:Int))),z.2.2)))) (Int.toNat x2) (fun z=>(z.1,(z.2.1,((wrap .i64 ((wrap .i64 (x1+(1:Int)))+(1:Int))),z.2.2.2))))):Nat):Int)))=true then
 if(decide ((0:Int)<=x2))=true then
 if(decide (x2<((length (List.modify (List.modify (List.modify (List.modify x3 (Int.toNat x2) (fun z=>(x1,z.2))) (Int.toNat x2) (fun z=>(z.1,((wrap .i64 (x1+(1:Int))),z.2.2)))) (Int.toNat x2) (fun z=>(z.1,(z.2.1,((wrap .i64 ((wrap .i64 (x1+(1:Int)))+(1:Int))),z.2.2.2))))) (Int.toNat x2) (fun z=>(z.1,(z.2.1,(z.2.2.1,((wrap .i64 ((wrap .i64 ((wrap .i64 (x1+(1:Int)))+(1:Int)))+(1:Int))),z.2.2.2.2)))))):Nat):Int)))=true then
 if(decide ((0:Int)<=x2))=true then
 if(decide (x2<((length (List.modify (List.modify (List.modify (List.modify (List.modify x3 (Int.toNat x2) (fun z=>(x1,z.2))) (Int.toNat x2) (fun z=>(z.1,((wrap .i64 (x1+(1:Int))),z.2.2)))) (Int.toNat x2) (fun z=>(z.1,(z.2.1,((wrap .i64 ((wrap .i64 (x1+(1:Int)))+(1:Int))),z.2.2.2))))) (Int.toNat x2) (fun z=>(z.1,(z.2.1,(z.2.2.1,((wrap .i64 ((wrap .i64 ((wrap .i64 (x1+(1:Int)))+(1:Int)))+(1:Int))),z.2.2.2.2)))))) (Int.toNat x2) (fun z=>(z.1,(z.2.1,(z.2.2.1,(z.2.2.2.1,((wrap .i64 ((wrap .i64 ((wrap .i64 ((wrap .i64 (x1+(1:Int)))+(1:Int)))+(1:Int)))+(1:Int))),z.2.2.2.2.2))))))):Nat):Int)))=true then
 if(aG.pre (wrap .i64 ((wrap .i64 ((wrap .i64 ((wrap .i64 ((wrap .i64 ((wrap .i64 (x1+(1:Int)))+(1:Int)))+(1:Int)))+(1:Int)))+(1:Int)))+(1:Int))))=true then
 if(decide ((0:Int)<=x2))=true then
 if(decide (x2<((length (List.modify (List.modify (List.modify (List.modify (List.modify (List.modify x3 (Int.toNat x2) (fun z=>(x1,z.2))) (Int.toNat x2) (fun z=>(z.1,((wrap .i64 (x1+(1:Int))),z.2.2)))) (Int.toNat x2) (fun z=>(z.1,(z.2.1,((wrap .i64 ((wrap .i64 (x1+(1:Int)))+(1:Int))),z.2.2.2))))) (Int.toNat x2) (fun z=>(z.1,(z.2.1,(z.2.2.1,((wrap .i64 ((wrap .i64 ((wrap .i64 (x1+(1:Int)))+(1:Int)))+(1:Int))),z.2.2.2.2)))))) (Int.toNat x2) (fun z=>(z.1,(z.2.1,(z.2.2.1,(z.2.2.2.1,((wrap .i64 ((wrap .i64 ((wrap .i64 ((wrap .i64 (x1+(1:Int)))+(1:Int)))+(1:Int)))+(1:Int))),z.2.2.2.2.2))))))) (Int.toNat x2) (fun z=>(z.1,(z.2.1,(z.2.2.1,(z.2.2.2.1,(z.2.2.2.2.1,((wrap .i64 ((wrap .i64 ((wrap .i64 ((wrap .i64 ((wrap .i64 (x1+(1:Int)))+(1:Int)))+(1:Int)))+(1:Int)))+(1:Int))),z.2.2.2.2.2.2)))))))):Nat):Int)))=true then
 if(aG.pre (wrap .i64 ((wrap .i64 ((wrap .i64 ((wrap .i64 ((wrap .i64 ((wrap .i64 ((wrap .i64 (x1+(1:Int)))+(1:Int)))+(1:Int)))+(1:Int)))+(1:Int)))+(1:Int)))+(1:Int))))=true then
 if(decide ((0:Int)<=x2))=true then
 if(decide (x2<((length (List.modify (List.modify (List.modify (List.modify (List.modify (List.modify (List.modify x3 (Int.toNat x2) (fun z=>(x1,z.2))) (Int.toNat x2) (fun z=>(z.1,((wrap .i64 (x1+(1:Int))),z.2.2)))) (Int.toNat x2) (fun z=>(z.1,(z.2.1,((wrap .i64 ((wrap .i64 (x1+(1:Int)))+(1:Int))),z.2.2.2))))) (Int.toNat x2) (fun z=>(z.1,(z.2.1,(z.2.2.1,((wrap .i64 ((wrap .i64 ((wrap .i64 (x1+(1:Int)))+(1:Int)))+(1:Int))),z.2.2.2.2)))))) (Int.toNat x2) (fun z=>(z.1,(z.2.1,(z.2.2.1,(z.2.2.2.1,((wrap .i64 ((wrap .i64 ((wrap .i64 ((wrap .i64 (x1+(1:Int)))+(1:Int)))+(1:Int)))+(1:Int))),z.2.2.2.2.2))))))) (Int.toNat x2) (fun z=>(z.1,(z.2.1,(z.2.2.1,(z.2.2.2.1,(z.2.2.2.2.1,((wrap .i64 ((wrap .i64 ((wrap .i64 ((wrap .i64 ((wrap .i64 (x1+(1:Int)))+(1:Int)))+(1:Int)))+(1:Int)))+(1:Int))),z.2.2.2.2.2.2)))))))) (Int.toNat x2) (fun z=>(z.1,(z.2.1,(z.2.2.1,(z.2.2.2.1,(z.2.2.2.2.1,(z.2.2.2.2.2.1,((aG (wrap .i64 ((wrap .i64 ((wrap .i64 ((wrap .i64 ((wrap .i64 ((wrap .i64 (x1+(1:Int)))+(1:Int)))+(1:Int)))+(1:Int)))+(1:Int)))+(1:Int)))),z.2.2.2.2.2.2.2))))))))):Nat):Int)))=true then
 some (.inl ((wrap .i64 ((wrap .i64 ((wrap .i64 ((wrap .i64 ((wrap .i64 ((wrap .i64 ((wrap .i64 ((wrap .i64 (x1+(1:Int)))+(1:Int)))+(1:Int)))+(1:Int)))+(1:Int)))+(1:Int)))+(1:Int)))+(1:Int))),((wrap .i64 (x2+(1:Int))),((List.modify (List.modify (List.modify (List.modify (List.modify (List.modify (List.modify (List.modify x3 (Int.toNat x2) (fun z=>(x1,z.2))) (Int.toNat x2) (fun z=>(z.1,((wrap .i64 (x1+(1:Int))),z.2.2)))) (Int.toNat x2) (fun z=>(z.1,(z.2.1,((wrap .i64 ((wrap .i64 (x1+(1:Int)))+(1:Int))),z.2.2.2))))) (Int.toNat x2) (fun z=>(z.1,(z.2.1,(z.2.2.1,((wrap .i64 ((wrap .i64 ((wrap .i64 (x1+(1:Int)))+(1:Int)))+(1:Int))),z.2.2.2.2)))))) (Int.toNat x2) (fun z=>(z.1,(z.2.1,(z.2.2.1,(z.2.2.2.1,((wrap .i64 ((wrap .i64 ((wrap .i64 ((wrap .i64 (x1+(1:Int)))+(1:Int)))+(1:Int)))+(1:Int))),z.2.2.2.2.2))))))) (Int.toNat x2) (fun z=>(z.1,(z.2.1,(z.2.2.1,(z.2.2.2.1,(z.2.2.2.2.1,((wrap .i64 ((wrap .i64 ((wrap .i64 ((wrap .i64 ((wrap .i64 (x1+(1:Int)))+(1:Int)))+(1:Int)))+(1:Int)))+(1:Int))),z.2.2.2.2.2.2)))))))) (Int.toNat x2) (fun z=>(z.1,(z.2.1,(z.2.2.1,(z.2.2.2.1,(z.2.2.2.2.1,(z.2.2.2.2.2.1,((aG (wrap .i64 ((wrap .i64 ((wrap .i64 ((wrap .i64 ((wrap .i64 ((wrap .i64 (x1+(1:Int)))+(1:Int)))+(1:Int)))+(1:Int)))+(1:Int)))+(1:Int)))),z.2.2.2.2.2.2.2))))))))) (Int.toNat x2) (fun z=>(z.1,(z.2.1,(z.2.2.1,(z.2.2.2.1,(z.2.2.2.2.1,(z.2.2.2.2.2.1,(z.2.2.2.2.2.2.1,((aG (wrap .i64 ((wrap .i64 ((wrap .i64 ((wrap .i64 ((wrap .i64 ((wrap .i64 ((wrap .i64 (x1+(1:Int)))+(1:Int)))+(1:Int)))+(1:Int)))+(1:Int)))+(1:Int)))+(1:Int)))),z.2.2.2.2.2.2.2.2)))))))))),()))))
 else
 none
 else
 none
 else
 none
 else
 none
 else
 none
 else
 none
 else
 none
 else
 none
 else
 none
 else
 none
 else
 none
 else
 none
 else
 none
 else
 none
 else
 none
 else
 none
 else
 none
 else
 none
 else
 some (.inr (x1,(x3,())))
abbrev wf(x0:(List eO))(x1:Int):Prop:=hN [(.mut (.sl 0 zk6)),(.val (.int .i64) .f)] (x0,(x1,()))
noncomputable def aQ(x0:(List eO))(x1:Int):Option (((List eO)×Unit)×(Int×Unit)):=
 if(fK.pre2 (x1,((0:Int),(x0,()))))=true then
 letB (fK.fn2 (x1,((0:Int),(x0,())))) fun v1=>
 some (v1.2,(v1.1,()))
 else
 none
theorem rR(x1 x2:Int)(x3:List eO)(hp:pre2 (x1,(x2,(x3,())))=true):Rounds pre2 mA fn2 (x1,(x2,(x3,()))) (dT x1 x2 x3):=by
 unfold dT
 by_cases hlt:x2<(x3.length:Int)
 . obtain⟨h0,hk,hc,hn⟩:=qY zZ hp hlt sH
   generalize he:x3.getD x2.toNat sH=e at hc
   simp only[rM] at hc
   have w0:wrap .i64 (x1+1)=x1+1:=lF (by omega) (by omega)
   have w1:wrap .i64 (x1+1+1)=x1+1+1:=lF (by omega) (by omega)
   have w2:wrap .i64 (x1+1+1+1)=x1+1+1+1:=lF (by omega) (by omega)
   have w3:wrap .i64 (x1+1+1+1+1)=x1+1+1+1+1:=lF (by omega) (by omega)
   have w4:wrap .i64 (x1+1+1+1+1+1)=x1+1+1+1+1+1:=lF (by omega) (by omega)
   have w5:wrap .i64 (x1+1+1+1+1+1+1)=x1+1+1+1+1+1+1:=lF (by omega) (by omega)
   have w6:wrap .i64 (x1+1+1+1+1+1+1+1)=x1+1+1+1+1+1+1+1:=lF (by omega) (by omega)
   have p6:aG.pre (x1+1+1+1+1+1+1)=true:=by simp only[aG.pre,Za];omega
   have w7:wrap .i64 (x1+1+1+1+1+1+1+1+1)=x1+1+1+1+1+1+1+1+1:=lF (by omega) (by omega)
   have p7:aG.pre (x1+1+1+1+1+1+1+1)=true:=by simp only[aG.pre,Za];omega
   simp only[letB,List.length_modify,List.modify_modify_eq,nU hn,Function.comp,hlt,h0,he,decide_true,if_true,w0,w1,w2,w3,w4,w5,w6,p6,w7,p7]
   exact vF zZ hp hlt sH (by rw[he];simp only[rM];omega) (by rw[he];rfl)
 . rw[if_neg (by simp[hlt])];exact zE hp hlt
theorem eq(x0:List eO)(x1:Int)(_:wf x0 x1)(hp:pre x0 x1=true):aQ x0 x1=some (((fK x0 x1).1,()),((fK x0 x1).2,())):=by
 unfold aQ
 rw[if_pos (show pre2 _=true from sT zZ hp)]
 rfl
end fK
def rL(_:aY)(k:Int):aY:=(k,(k+1,()))
def fO(_:aY):Int:=2
theorem lU:yK rL fO:=⟨fun _=>by simp only[fO];decide,fun _ _=>rfl,fun _ _=>rfl⟩
noncomputable def kU(a b:aY):Bool:=same a b
namespace kU
abbrev wf(x0:aY)(x1:aY):Prop:=hN [(.val zk7 .f),(.val zk7 .f)] (x0,(x1,()))
noncomputable def aQ(x0:aY)(x1:aY):Option mO:=
 if(!(decide (x0.1=x1.1)))=true then
 some ((),(false,()))
 else
 if(!(decide (x0.2.1=x1.2.1)))=true then
 some ((),(false,()))
 else
 some ((),(true,()))
theorem eq(x0 x1:aY)(_:wf x0 x1):aQ x0 x1=some ((),(kU x0 x1,())):=by
 unfold aQ kU
 try simp only[letB]
 by_cases c0:x0.1=x1.1
 case neg=>rw[if_pos (by simp[c0]),aM.2 (fun h=>c0 (congrArg (fun z:aY=>z.1) h))]
 rw[if_neg (by simp[c0])]
 by_cases c1:x0.2.1=x1.2.1
 case neg=>rw[if_pos (by simp[c1]),aM.2 (fun h=>c1 (congrArg (fun z:aY=>z.2.1) h))]
 rw[if_neg (by simp[c1])]
 rw[cF.2 (Prod.ext c0 (Prod.ext c1 rfl))]
end kU
noncomputable def iB(a b:List aY):Bool:=same a b
namespace iB
def pre4:=rV (α:=aY)
noncomputable def fn4:=yL (α:=aY)
def lN:=aCc (α:=aY)
noncomputable def eA(x1:(List aY))(x2:(List aY))(x3:Int):Option (((List aY)×((List aY)×(Int×Unit)))⊕((Bool×Unit)⊕Unit)):=
 if(decide (x3<((length x1:Nat):Int)))=true then
 if(decide ((0:Int)<=x3))=true then
 if(decide (x3<((length x1:Nat):Int)))=true then
 if(decide ((0:Int)<=x3))=true then
 if(decide (x3<((length x2:Nat):Int)))=true then
 letB (kU (List.getD x1 (Int.toNat x3) nW) (List.getD x2 (Int.toNat x3) nW)) fun v1=>
 if(!v1)=true then
 some (.inr (.inl (false,())))
 else
 some (.inl (x1,(x2,((wrap .i64 (x3+(1:Int))),()))))
 else
 none
 else
 none
 else
 none
 else
 none
 else
 some (.inr (.inr ()))
abbrev wf(x0:(List aY))(x1:(List aY)):Prop:=hN [(.val (.sl 0 zk7) .f),(.val (.sl 0 zk7) .f)] (x0,(x1,()))
noncomputable def aQ(x0:(List aY))(x1:(List aY)):Option mO:=
 if(!(decide (((length x0:Nat):Int)=((length x1:Nat):Int))))=true then
  some ((),(false,()))
 else
  if(iB.pre4 (x0,(x1,((0:Int),()))))=true then
   letB (iB.fn4 (x0,(x1,((0:Int),())))) fun v1=>
   match v1 with
   |.inl y=>
    some ((),y)
   |.inr y=>
    some ((),(true,()))
  else
   none
theorem uM(x1 x2:List aY)(x3:Int)(hp:pre4 (x1,(x2,(x3,())))=true):Rounds pre4 lN fn4 (x1,(x2,(x3,()))) (eA x1 x2 x3):=by
 unfold eA
 by_cases hlt:x3<(x1.length:Int)
 . obtain⟨h1,h2,h3,h4⟩:=uS hp hlt nW
   simp only[letB,hlt,h1,h2,decide_true,if_true]
   by_cases h:x1.getD x3.toNat nW=x2.getD x3.toNat nW
   . rw[if_neg (by rw[kU,cF.2 h];simp)];exact h3 h
   . rw[if_pos (by rw[kU,aM.2 h];rfl)];exact h4 h
 . simp only[hlt,decide_false,Zj,if_false]
   exact yP hp hlt
theorem eq(x0 x1:List aY)(hw:wf x0 x1):aQ x0 x1=some ((),(iB x0 x1,())):=by
 have h1:x0.length<=maxLen:=hw.1.1
 unfold aQ iB
 by_cases hl:(x0.length:Int)=(x1.length:Int)
 . rw[if_neg (by simp[hl]),if_pos (show pre4 _=true from sR h1 hl)]
   unfold fn4
   by_cases he:x0=x1
   . rw[uW he,cF.2 he];rfl
   . rw[uQ he,aM.2 he];rfl
 . have:¬x0=x1:=fun h=>hl (by rw[h])
   rw[if_pos (by simp[hl]),aM.2 this]
end iB
def dZ(xs:List aY)(k:Int):List aY×Int:=(oL rL fO xs k,k+bK fO xs)
namespace dZ
def pre(xs:List aY)(k:Int):Bool:=xY fO xs k
def pre2:=qX fO
def fn2:=aC8 rL fO
def mA:=aDe (α:=aY)
noncomputable def dT(x1:Int)(x2:Int)(x3:(List aY)):Option ((Int×(Int×((List aY)×Unit)))⊕(Int×((List aY)×Unit))):=
 if(decide (x2<((length x3:Nat):Int)))=true then
 if(decide ((0:Int)<=x2))=true then
 if(decide (x2<((length x3:Nat):Int)))=true then
 if(decide ((0:Int)<=x2))=true then
 if(decide (x2<((length (List.modify x3 (Int.toNat x2) (fun z=>(x1,z.2))):Nat):Int)))=true then
 some (.inl ((wrap .i64 ((wrap .i64 (x1+(1:Int)))+(1:Int))),((wrap .i64 (x2+(1:Int))),((List.modify (List.modify x3 (Int.toNat x2) (fun z=>(x1,z.2))) (Int.toNat x2) (fun z=>(z.1,((wrap .i64 (x1+(1:Int))),z.2.2)))),()))))
 else
 none
 else
 none
 else
 none
 else
 none
 else
 some (.inr (x1,(x3,())))
abbrev wf(x0:(List aY))(x1:Int):Prop:=hN [(.mut (.sl 0 zk7)),(.val (.int .i64) .f)] (x0,(x1,()))
noncomputable def aQ(x0:(List aY))(x1:Int):Option (((List aY)×Unit)×(Int×Unit)):=
 if(dZ.pre2 (x1,((0:Int),(x0,()))))=true then
 letB (dZ.fn2 (x1,((0:Int),(x0,())))) fun v1=>
 some (v1.2,(v1.1,()))
 else
 none
theorem rR(x1 x2:Int)(x3:List aY)(hp:pre2 (x1,(x2,(x3,())))=true):Rounds pre2 mA fn2 (x1,(x2,(x3,()))) (dT x1 x2 x3):=by
 unfold dT
 by_cases hlt:x2<(x3.length:Int)
 . obtain⟨h0,hk,hc,hn⟩:=qY lU hp hlt nW
   generalize he:x3.getD x2.toNat nW=e at hc
   simp only[fO] at hc
   have w0:wrap .i64 (x1+1)=x1+1:=lF (by omega) (by omega)
   have w1:wrap .i64 (x1+1+1)=x1+1+1:=lF (by omega) (by omega)
   simp only[letB,List.length_modify,List.modify_modify_eq,nU hn,Function.comp,hlt,h0,he,decide_true,if_true,w0,w1]
   exact vF lU hp hlt nW (by rw[he];simp only[fO];omega) (by rw[he];rfl)
 . rw[if_neg (by simp[hlt])];exact zE hp hlt
theorem eq(x0:List aY)(x1:Int)(_:wf x0 x1)(hp:pre x0 x1=true):aQ x0 x1=some (((dZ x0 x1).1,()),((dZ x0 x1).2,())):=by
 unfold aQ
 rw[if_pos (show pre2 _=true from sT lU hp)]
 rfl
end dZ
theorem aF3(xs:List aY)(k:Int):dZ xs k=(oL rL fO xs k,k+bK fO xs):=rfl
theorem aDT{xs:List aY}{k:Int}(h0:0<=k)(h1:k+bK fO xs<=134217728):dZ.pre xs k=true:=lP.2 ⟨h0,h1⟩
noncomputable def dP(xs:List aY)(k:Int):Int:=vG (oL rL fO) (bK fO) xs k
namespace dP
def pre(xs:List aY)(k:Int):Bool:=xY fO xs k
def pre2:=pW fO
noncomputable def fn2:=aAz rL fO
def mA:=aCS (α:=aY)
noncomputable def dT(x1:(List aY))(x2:Int)(x3:Int):Option (((List aY)×aY)⊕((Int×Unit)⊕(Int×Unit))):=
 if(decide (x3<((length x1:Nat):Int)))=true then
 if(decide ((0:Int)<=x3))=true then
 if(decide (x3<((length x1:Nat):Int)))=true then
 if(!(decide ((List.getD x1 (Int.toNat x3) nW).1=x2)))=true then
 some (.inr (.inl ((-1:Int),())))
 else
 if(decide ((0:Int)<=x3))=true then
 if(decide (x3<((length x1:Nat):Int)))=true then
 if(!(decide ((List.getD x1 (Int.toNat x3) nW).2.1=(wrap .i64 (x2+(1:Int))))))=true then
 some (.inr (.inl ((-1:Int),())))
 else
 some (.inl (x1,((wrap .i64 ((wrap .i64 (x2+(1:Int)))+(1:Int))),((wrap .i64 (x3+(1:Int))),()))))
 else
 none
 else
 none
 else
 none
 else
 none
 else
 some (.inr (.inr (x2,())))
abbrev wf(x0:(List aY))(x1:Int):Prop:=hN [(.val (.sl 0 zk7) .f),(.val (.int .i64) .f)] (x0,(x1,()))
noncomputable def aQ(x0:(List aY))(x1:Int):Option uK:=
 if(dP.pre2 (x0,(x1,((0:Int),()))))=true then
  letB (dP.fn2 (x0,(x1,((0:Int),())))) fun v1=>
  match v1 with
  |.inl y=>
   some ((),y)
  |.inr y=>
   some ((),y)
 else
  none
theorem rR(x1:List aY)(x2 x3:Int)(hp:pre2 (x1,(x2,(x3,())))=true):Rounds pre2 mA fn2 (x1,(x2,(x3,()))) (dT x1 x2 x3):=by
 unfold dT
 by_cases hlt:x3<(x1.length:Int)
 . obtain⟨h0,hk,hc⟩:=uE lU hp hlt nW
   have bad:=aAx (m:=rL) (g:=fO) hp hlt nW
   have good:=fun K hK=>xB lU (K:=K) hp hlt nW hK
   generalize x1.getD x3.toNat nW=e at *
   simp only[fO] at hc
   have w0:wrap .i64 (x2+1)=x2+1:=lF (by omega) (by omega)
   have w1:wrap .i64 (x2+1+1)=x2+1+1:=lF (by omega) (by omega)
   simp only[letB,hlt,h0,decide_true,if_true,w0,w1]
   by_cases c0:e.1=x2
   case neg=>rw[if_pos (by simp[c0])];exact bad fun h=>c0 (congrArg (fun z:aY=>z.1) h)
   rw[if_neg (by simp[c0])]
   by_cases c1:e.2.1=x2+1
   case neg=>rw[if_pos (by simp[c1])];exact bad fun h=>c1 (congrArg (fun z:aY=>z.2.1) h)
   rw[if_neg (by simp[c1])]
   exact good _ (by simp only[fO];omega) (Prod.ext c0 (Prod.ext c1 rfl))
 . rw[if_neg (by simp[hlt])];exact aAl hp hlt
theorem eq(x0:List aY)(x1:Int)(_:wf x0 x1)(hp:pre x0 x1=true):aQ x0 x1=some ((),(dP x0 x1,())):=by
 unfold aQ
 rw[if_pos (show pre2 _=true from uB lU hp)]
 exact qF x0 x1
end dP
theorem aDW{xs:List aY}{k:Int}(h:xs=oL rL fO xs k):dP xs k=k+bK fO xs:=oO h
theorem aE0{xs:List aY}{k:Int}(h:¬xs=oL rL fO xs k):dP xs k=-1:=mF h
theorem aDQ{xs:List aY}{k:Int}(h0:0<=k)(h1:k+bK fO xs<=134217728):dP.pre xs k=true:=lP.2 ⟨h0,h1⟩
def rH(_:aP)(k:Int):aP:=(k,(aG (k+1),(aG (k+1+1),(k+1+1+1,(k+1+1+1+1,())))))
def fQ(_:aP):Int:=5
theorem lW:yK rH fQ:=⟨fun _=>by simp only[fQ];decide,fun _ _=>rfl,fun _ _=>rfl⟩
noncomputable def kX(a b:aP):Bool:=same a b
namespace kX
abbrev wf(x0:aP)(x1:aP):Prop:=hN [(.val zI .f),(.val zI .f)] (x0,(x1,()))
noncomputable def aQ(x0:aP)(x1:aP):Option mO:=
 if(!(decide (x0.1=x1.1)))=true then
 some ((),(false,()))
 else
 if(!(x0.2.1==x1.2.1))=true then
 some ((),(false,()))
 else
 if(!(x0.2.2.1==x1.2.2.1))=true then
 some ((),(false,()))
 else
 if(!(decide (x0.2.2.2.1=x1.2.2.2.1)))=true then
 some ((),(false,()))
 else
 if(!(decide (x0.2.2.2.2.1=x1.2.2.2.2.1)))=true then
 some ((),(false,()))
 else
 some ((),(true,()))
theorem eq(x0 x1:aP)(_:wf x0 x1):aQ x0 x1=some ((),(kX x0 x1,())):=by
 unfold aQ kX
 try simp only[letB]
 by_cases c0:x0.1=x1.1
 case neg=>rw[if_pos (by simp[c0]),aM.2 (fun h=>c0 (congrArg (fun z:aP=>z.1) h))]
 rw[if_neg (by simp[c0])]
 by_cases c1:x0.2.1=x1.2.1
 case neg=>rw[if_pos (by simp[c1]),aM.2 (fun h=>c1 (congrArg (fun z:aP=>z.2.1) h))]
 rw[if_neg (by simp[c1])]
 by_cases c2:x0.2.2.1=x1.2.2.1
 case neg=>rw[if_pos (by simp[c2]),aM.2 (fun h=>c2 (congrArg (fun z:aP=>z.2.2.1) h))]
 rw[if_neg (by simp[c2])]
 by_cases c3:x0.2.2.2.1=x1.2.2.2.1
 case neg=>rw[if_pos (by simp[c3]),aM.2 (fun h=>c3 (congrArg (fun z:aP=>z.2.2.2.1) h))]
 rw[if_neg (by simp[c3])]
 by_cases c4:x0.2.2.2.2.1=x1.2.2.2.2.1
 case neg=>rw[if_pos (by simp[c4]),aM.2 (fun h=>c4 (congrArg (fun z:aP=>z.2.2.2.2.1) h))]
 rw[if_neg (by simp[c4])]
 rw[cF.2 (Prod.ext c0 (Prod.ext c1 (Prod.ext c2 (Prod.ext c3 (Prod.ext c4 rfl)))))]
end kX
noncomputable def iF(a b:List aP):Bool:=same a b
namespace iF
def pre4:=rV (α:=aP)
noncomputable def fn4:=yL (α:=aP)
def lN:=aCc (α:=aP)
noncomputable def eA(x1:(List aP))(x2:(List aP))(x3:Int):Option (((List aP)×((List aP)×(Int×Unit)))⊕((Bool×Unit)⊕Unit)):=
 if(decide (x3<((length x1:Nat):Int)))=true then
 if(decide ((0:Int)<=x3))=true then
 if(decide (x3<((length x1:Nat):Int)))=true then
 if(decide ((0:Int)<=x3))=true then
 if(decide (x3<((length x2:Nat):Int)))=true then
 letB (kX (List.getD x1 (Int.toNat x3) lL) (List.getD x2 (Int.toNat x3) lL)) fun v1=>
 if(!v1)=true then
 some (.inr (.inl (false,())))
 else
 some (.inl (x1,(x2,((wrap .i64 (x3+(1:Int))),()))))
 else
 none
 else
 none
 else
 none
 else
 none
 else
 some (.inr (.inr ()))
abbrev wf(x0:(List aP))(x1:(List aP)):Prop:=hN [(.val (.sl 0 zI) .f),(.val (.sl 0 zI) .f)] (x0,(x1,()))
noncomputable def aQ(x0:(List aP))(x1:(List aP)):Option mO:=
 if(!(decide (((length x0:Nat):Int)=((length x1:Nat):Int))))=true then
  some ((),(false,()))
 else
  if(iF.pre4 (x0,(x1,((0:Int),()))))=true then
   letB (iF.fn4 (x0,(x1,((0:Int),())))) fun v1=>
   match v1 with
   |.inl y=>
    some ((),y)
   |.inr y=>
    some ((),(true,()))
  else
   none
theorem uM(x1 x2:List aP)(x3:Int)(hp:pre4 (x1,(x2,(x3,())))=true):Rounds pre4 lN fn4 (x1,(x2,(x3,()))) (eA x1 x2 x3):=by
 unfold eA
 by_cases hlt:x3<(x1.length:Int)
 . obtain⟨h1,h2,h3,h4⟩:=uS hp hlt lL
   simp only[letB,hlt,h1,h2,decide_true,if_true]
   by_cases h:x1.getD x3.toNat lL=x2.getD x3.toNat lL
   . rw[if_neg (by rw[kX,cF.2 h];simp)];exact h3 h
   . rw[if_pos (by rw[kX,aM.2 h];rfl)];exact h4 h
 . simp only[hlt,decide_false,Zj,if_false]
   exact yP hp hlt
theorem eq(x0 x1:List aP)(hw:wf x0 x1):aQ x0 x1=some ((),(iF x0 x1,())):=by
 have h1:x0.length<=maxLen:=hw.1.1
 unfold aQ iF
 by_cases hl:(x0.length:Int)=(x1.length:Int)
 . rw[if_neg (by simp[hl]),if_pos (show pre4 _=true from sR h1 hl)]
   unfold fn4
   by_cases he:x0=x1
   . rw[uW he,cF.2 he];rfl
   . rw[uQ he,aM.2 he];rfl
 . have:¬x0=x1:=fun h=>hl (by rw[h])
   rw[if_pos (by simp[hl]),aM.2 this]
end iF
def dY(xs:List aP)(k:Int):List aP×Int:=(oL rH fQ xs k,k+bK fQ xs)
namespace dY
def pre(xs:List aP)(k:Int):Bool:=xY fQ xs k
def pre2:=qX fQ
def fn2:=aC8 rH fQ
def mA:=aDe (α:=aP)
noncomputable def dT(x1:Int)(x2:Int)(x3:(List aP)):Option (bS⊕(Int×((List aP)×Unit))):=
 if(decide (x2<((length x3:Nat):Int)))=true then
 if(decide ((0:Int)<=x2))=true then
 if(decide (x2<((length x3:Nat):Int)))=true then
 if(aG.pre (wrap .i64 (x1+(1:Int))))=true then
 if(decide ((0:Int)<=x2))=true then
 if(decide (x2<((length (List.modify x3 (Int.toNat x2) (fun z=>(x1,z.2))):Nat):Int)))=true then
 if(aG.pre (wrap .i64 ((wrap .i64 (x1+(1:Int)))+(1:Int))))=true then
 if(decide ((0:Int)<=x2))=true then
 if(decide (x2<((length (List.modify (List.modify x3 (Int.toNat x2) (fun z=>(x1,z.2))) (Int.toNat x2) (fun z=>(z.1,((aG (wrap .i64 (x1+(1:Int)))),z.2.2)))):Nat):Int)))=true then
 if(decide ((0:Int)<=x2))=true then
 if(decide (x2<((length (List.modify (List.modify (List.modify x3 (Int.toNat x2) (fun z=>(x1,z.2))) (Int.toNat x2) (fun z=>(z.1,((aG (wrap .i64 (x1+(1:Int)))),z.2.2)))) (Int.toNat x2) (fun z=>(z.1,(z.2.1,((aG (wrap .i64 ((wrap .i64 (x1+(1:Int)))+(1:Int)))),z.2.2.2))))):Nat):Int)))=true then
 if(decide ((0:Int)<=x2))=true then
 if(decide (x2<((length (List.modify (List.modify (List.modify (List.modify x3 (Int.toNat x2) (fun z=>(x1,z.2))) (Int.toNat x2) (fun z=>(z.1,((aG (wrap .i64 (x1+(1:Int)))),z.2.2)))) (Int.toNat x2) (fun z=>(z.1,(z.2.1,((aG (wrap .i64 ((wrap .i64 (x1+(1:Int)))+(1:Int)))),z.2.2.2))))) (Int.toNat x2) (fun z=>(z.1,(z.2.1,(z.2.2.1,((wrap .i64 ((wrap .i64 ((wrap .i64 (x1+(1:Int)))+(1:Int)))+(1:Int))),z.2.2.2.2)))))):Nat):Int)))=true then
 some (.inl ((wrap .i64 ((wrap .i64 ((wrap .i64 ((wrap .i64 ((wrap .i64 (x1+(1:Int)))+(1:Int)))+(1:Int)))+(1:Int)))+(1:Int))),((wrap .i64 (x2+(1:Int))),((List.modify (List.modify (List.modify (List.modify (List.modify x3 (Int.toNat x2) (fun z=>(x1,z.2))) (Int.toNat x2) (fun z=>(z.1,((aG (wrap .i64 (x1+(1:Int)))),z.2.2)))) (Int.toNat x2) (fun z=>(z.1,(z.2.1,((aG (wrap .i64 ((wrap .i64 (x1+(1:Int)))+(1:Int)))),z.2.2.2))))) (Int.toNat x2) (fun z=>(z.1,(z.2.1,(z.2.2.1,((wrap .i64 ((wrap .i64 ((wrap .i64 (x1+(1:Int)))+(1:Int)))+(1:Int))),z.2.2.2.2)))))) (Int.toNat x2) (fun z=>(z.1,(z.2.1,(z.2.2.1,(z.2.2.2.1,((wrap .i64 ((wrap .i64 ((wrap .i64 ((wrap .i64 (x1+(1:Int)))+(1:Int)))+(1:Int)))+(1:Int))),z.2.2.2.2.2))))))),()))))
 else
 none
 else
 none
 else
 none
 else
 none
 else
 none
 else
 none
 else
 none
 else
 none
 else
 none
 else
 none
 else
 none
 else
 none
 else
 some (.inr (x1,(x3,())))
abbrev wf(x0:(List aP))(x1:Int):Prop:=hN [(.mut (.sl 0 zI)),(.val (.int .i64) .f)] (x0,(x1,()))
noncomputable def aQ(x0:(List aP))(x1:Int):Option (((List aP)×Unit)×(Int×Unit)):=
 if(dY.pre2 (x1,((0:Int),(x0,()))))=true then
 letB (dY.fn2 (x1,((0:Int),(x0,())))) fun v1=>
 some (v1.2,(v1.1,()))
 else
 none
theorem rR(x1 x2:Int)(x3:List aP)(hp:pre2 (x1,(x2,(x3,())))=true):Rounds pre2 mA fn2 (x1,(x2,(x3,()))) (dT x1 x2 x3):=by
 unfold dT
 by_cases hlt:x2<(x3.length:Int)
 . obtain⟨h0,hk,hc,hn⟩:=qY lW hp hlt lL
   generalize he:x3.getD x2.toNat lL=e at hc
   simp only[fQ] at hc
   have w0:wrap .i64 (x1+1)=x1+1:=lF (by omega) (by omega)
   have w1:wrap .i64 (x1+1+1)=x1+1+1:=lF (by omega) (by omega)
   have p1:aG.pre (x1+1)=true:=by simp only[aG.pre,Za];omega
   have w2:wrap .i64 (x1+1+1+1)=x1+1+1+1:=lF (by omega) (by omega)
   have p2:aG.pre (x1+1+1)=true:=by simp only[aG.pre,Za];omega
   have w3:wrap .i64 (x1+1+1+1+1)=x1+1+1+1+1:=lF (by omega) (by omega)
   have w4:wrap .i64 (x1+1+1+1+1+1)=x1+1+1+1+1+1:=lF (by omega) (by omega)
   simp only[letB,List.length_modify,List.modify_modify_eq,nU hn,Function.comp,hlt,h0,he,decide_true,if_true,w0,w1,p1,w2,p2,w3,w4]
   exact vF lW hp hlt lL (by rw[he];simp only[fQ];omega) (by rw[he];rfl)
 . rw[if_neg (by simp[hlt])];exact zE hp hlt
theorem eq(x0:List aP)(x1:Int)(_:wf x0 x1)(hp:pre x0 x1=true):aQ x0 x1=some (((dY x0 x1).1,()),((dY x0 x1).2,())):=by
 unfold aQ
 rw[if_pos (show pre2 _=true from sT lW hp)]
 rfl
end dY
theorem aF8(xs:List aP)(k:Int):dY xs k=(oL rH fQ xs k,k+bK fQ xs):=rfl
theorem aE7{xs:List aP}{k:Int}(h0:0<=k)(h1:k+bK fQ xs<=134217728):dY.pre xs k=true:=lP.2 ⟨h0,h1⟩
noncomputable def dQ(xs:List aP)(k:Int):Int:=vG (oL rH fQ) (bK fQ) xs k
namespace dQ
def pre(xs:List aP)(k:Int):Bool:=xY fQ xs k
def pre2:=pW fQ
noncomputable def fn2:=aAz rH fQ
def mA:=aCS (α:=aP)
noncomputable def dT(x1:(List aP))(x2:Int)(x3:Int):Option (((List aP)×aY)⊕((Int×Unit)⊕(Int×Unit))):=
 if(decide (x3<((length x1:Nat):Int)))=true then
 if(decide ((0:Int)<=x3))=true then
 if(decide (x3<((length x1:Nat):Int)))=true then
 if(!(decide ((List.getD x1 (Int.toNat x3) lL).1=x2)))=true then
 some (.inr (.inl ((-1:Int),())))
 else
 if(decide ((0:Int)<=x3))=true then
 if(decide (x3<((length x1:Nat):Int)))=true then
 if(aG.pre (wrap .i64 (x2+(1:Int))))=true then
 letB (aG (wrap .i64 (x2+(1:Int)))) fun v1=>
 if(!((List.getD x1 (Int.toNat x3) lL).2.1==v1))=true then
 some (.inr (.inl ((-1:Int),())))
 else
 if(decide ((0:Int)<=x3))=true then
 if(decide (x3<((length x1:Nat):Int)))=true then
 if(aG.pre (wrap .i64 ((wrap .i64 (x2+(1:Int)))+(1:Int))))=true then
 letB (aG (wrap .i64 ((wrap .i64 (x2+(1:Int)))+(1:Int)))) fun v2=>
 if(!((List.getD x1 (Int.toNat x3) lL).2.2.1==v2))=true then
 some (.inr (.inl ((-1:Int),())))
 else
 if(decide ((0:Int)<=x3))=true then
 if(decide (x3<((length x1:Nat):Int)))=true then
 if(!(decide ((List.getD x1 (Int.toNat x3) lL).2.2.2.1=(wrap .i64 ((wrap .i64 ((wrap .i64 (x2+(1:Int)))+(1:Int)))+(1:Int))))))=true then
 some (.inr (.inl ((-1:Int),())))
 else
 if(decide ((0:Int)<=x3))=true then
 if(decide (x3<((length x1:Nat):Int)))=true then
 if(!(decide ((List.getD x1 (Int.toNat x3) lL).2.2.2.2.1=(wrap .i64 ((wrap .i64 ((wrap .i64 ((wrap .i64 (x2+(1:Int)))+(1:Int)))+(1:Int)))+(1:Int))))))=true then
 some (.inr (.inl ((-1:Int),())))
 else
 some (.inl (x1,((wrap .i64 ((wrap .i64 ((wrap .i64 ((wrap .i64 ((wrap .i64 (x2+(1:Int)))+(1:Int)))+(1:Int)))+(1:Int)))+(1:Int))),((wrap .i64 (x3+(1:Int))),()))))
 else
 none
 else
 none
 else
 none
 else
 none
 else
 none
 else
 none
 else
 none
 else
 none
 else
 none
 else
 none
 else
 none
 else
 none
 else
 some (.inr (.inr (x2,())))
abbrev wf(x0:(List aP))(x1:Int):Prop:=hN [(.val (.sl 0 zI) .f),(.val (.int .i64) .f)] (x0,(x1,()))
noncomputable def aQ(x0:(List aP))(x1:Int):Option uK:=
 if(dQ.pre2 (x0,(x1,((0:Int),()))))=true then
  letB (dQ.fn2 (x0,(x1,((0:Int),())))) fun v1=>
  match v1 with
  |.inl y=>
   some ((),y)
  |.inr y=>
   some ((),y)
 else
  none
theorem rR(x1:List aP)(x2 x3:Int)(hp:pre2 (x1,(x2,(x3,())))=true):Rounds pre2 mA fn2 (x1,(x2,(x3,()))) (dT x1 x2 x3):=by
 unfold dT
 by_cases hlt:x3<(x1.length:Int)
 . obtain⟨h0,hk,hc⟩:=uE lW hp hlt lL
   have bad:=aAx (m:=rH) (g:=fQ) hp hlt lL
   have good:=fun K hK=>xB lW (K:=K) hp hlt lL hK
   generalize x1.getD x3.toNat lL=e at *
   simp only[fQ] at hc
   have w0:wrap .i64 (x2+1)=x2+1:=lF (by omega) (by omega)
   have w1:wrap .i64 (x2+1+1)=x2+1+1:=lF (by omega) (by omega)
   have p1:aG.pre (x2+1)=true:=by simp only[aG.pre,Za];omega
   have w2:wrap .i64 (x2+1+1+1)=x2+1+1+1:=lF (by omega) (by omega)
   have p2:aG.pre (x2+1+1)=true:=by simp only[aG.pre,Za];omega
   have w3:wrap .i64 (x2+1+1+1+1)=x2+1+1+1+1:=lF (by omega) (by omega)
   have w4:wrap .i64 (x2+1+1+1+1+1)=x2+1+1+1+1+1:=lF (by omega) (by omega)
   simp only[letB,hlt,h0,decide_true,if_true,w0,w1,p1,w2,p2,w3,w4]
   by_cases c0:e.1=x2
   case neg=>rw[if_pos (by simp[c0])];exact bad fun h=>c0 (congrArg (fun z:aP=>z.1) h)
   rw[if_neg (by simp[c0])]
   by_cases c1:e.2.1=aG (x2+1)
   case neg=>rw[if_pos (by simp[c1])];exact bad fun h=>c1 (congrArg (fun z:aP=>z.2.1) h)
   rw[if_neg (by simp[c1])]
   by_cases c2:e.2.2.1=aG (x2+1+1)
   case neg=>rw[if_pos (by simp[c2])];exact bad fun h=>c2 (congrArg (fun z:aP=>z.2.2.1) h)
   rw[if_neg (by simp[c2])]
   by_cases c3:e.2.2.2.1=x2+1+1+1
   case neg=>rw[if_pos (by simp[c3])];exact bad fun h=>c3 (congrArg (fun z:aP=>z.2.2.2.1) h)
   rw[if_neg (by simp[c3])]
   by_cases c4:e.2.2.2.2.1=x2+1+1+1+1
   case neg=>rw[if_pos (by simp[c4])];exact bad fun h=>c4 (congrArg (fun z:aP=>z.2.2.2.2.1) h)
   rw[if_neg (by simp[c4])]
   exact good _ (by simp only[fQ];omega) (Prod.ext c0 (Prod.ext c1 (Prod.ext c2 (Prod.ext c3 (Prod.ext c4 rfl)))))
 . rw[if_neg (by simp[hlt])];exact aAl hp hlt
theorem eq(x0:List aP)(x1:Int)(_:wf x0 x1)(hp:pre x0 x1=true):aQ x0 x1=some ((),(dQ x0 x1,())):=by
 unfold aQ
 rw[if_pos (show pre2 _=true from uB lW hp)]
 exact qF x0 x1
end dQ
theorem aDP{xs:List aP}{k:Int}(h:xs=oL rH fQ xs k):dQ xs k=k+bK fQ xs:=oO h
theorem aE1{xs:List aP}{k:Int}(h:¬xs=oL rH fQ xs k):dQ xs k=-1:=mF h
theorem aE6{xs:List aP}{k:Int}(h0:0<=k)(h1:k+bK fQ xs<=134217728):dQ.pre xs k=true:=lP.2 ⟨h0,h1⟩
def rF(x:bS)(k:Int):bS:=(k,(k+1,(oL rH fQ x.2.2.1 (k+1+1),())))
def cL(x:bS):Int:=2+bK fQ x.2.2.1
theorem mX:yK rF cL:=by
 refine⟨fun x=>?_,fun x k=>?_,fun x k=>?_⟩
 . have n2:=fV lW x.2.2.1
   simp only[cL];omega
 . simp only[cL,rF,kO lW]
 . simp only[rF,kO lW,sO lW]
noncomputable def lV(a b:bS):Bool:=same a b
namespace lV
abbrev wf(x0:bS)(x1:bS):Prop:=hN [(.val sZ .f),(.val sZ .f)] (x0,(x1,()))
noncomputable def aQ(x0:bS)(x1:bS):Option mO:=
 if(!(decide (x0.1=x1.1)))=true then
 some ((),(false,()))
 else
 if(!(decide (x0.2.1=x1.2.1)))=true then
 some ((),(false,()))
 else
 letB (iF x0.2.2.1 x1.2.2.1) fun v1=>
 if(!v1)=true then
 some ((),(false,()))
 else
 some ((),(true,()))
theorem eq(x0 x1:bS)(_:wf x0 x1):aQ x0 x1=some ((),(lV x0 x1,())):=by
 unfold aQ lV
 try simp only[letB]
 by_cases c0:x0.1=x1.1
 case neg=>rw[if_pos (by simp[c0]),aM.2 (fun h=>c0 (congrArg (fun z:bS=>z.1) h))]
 rw[if_neg (by simp[c0])]
 by_cases c1:x0.2.1=x1.2.1
 case neg=>rw[if_pos (by simp[c1]),aM.2 (fun h=>c1 (congrArg (fun z:bS=>z.2.1) h))]
 rw[if_neg (by simp[c1])]
 by_cases c2:x0.2.2.1=x1.2.2.1
 case neg=>rw[if_pos (by rw[iF,aM.2 c2];rfl),aM.2 (fun h=>c2 (congrArg (fun z:bS=>z.2.2.1) h))]
 rw[if_neg (by rw[iF,cF.2 c2];simp)]
 rw[cF.2 (Prod.ext c0 (Prod.ext c1 (Prod.ext c2 rfl)))]
end lV
noncomputable def jF(a b:List bS):Bool:=same a b
namespace jF
def pre4:=rV (α:=bS)
noncomputable def fn4:=yL (α:=bS)
def lN:=aCc (α:=bS)
noncomputable def eA(x1:(List bS))(x2:(List bS))(x3:Int):Option (((List bS)×((List bS)×(Int×Unit)))⊕((Bool×Unit)⊕Unit)):=
 if(decide (x3<((length x1:Nat):Int)))=true then
 if(decide ((0:Int)<=x3))=true then
 if(decide (x3<((length x1:Nat):Int)))=true then
 if(decide ((0:Int)<=x3))=true then
 if(decide (x3<((length x2:Nat):Int)))=true then
 letB (lV (List.getD x1 (Int.toNat x3) pF) (List.getD x2 (Int.toNat x3) pF)) fun v1=>
 if(!v1)=true then
 some (.inr (.inl (false,())))
 else
 some (.inl (x1,(x2,((wrap .i64 (x3+(1:Int))),()))))
 else
 none
 else
 none
 else
 none
 else
 none
 else
 some (.inr (.inr ()))
abbrev wf(x0:(List bS))(x1:(List bS)):Prop:=hN [(.val (.sl 0 sZ) .f),(.val (.sl 0 sZ) .f)] (x0,(x1,()))
noncomputable def aQ(x0:(List bS))(x1:(List bS)):Option mO:=
 if(!(decide (((length x0:Nat):Int)=((length x1:Nat):Int))))=true then
  some ((),(false,()))
 else
  if(jF.pre4 (x0,(x1,((0:Int),()))))=true then
   letB (jF.fn4 (x0,(x1,((0:Int),())))) fun v1=>
   match v1 with
   |.inl y=>
    some ((),y)
   |.inr y=>
    some ((),(true,()))
  else
   none
theorem uM(x1 x2:List bS)(x3:Int)(hp:pre4 (x1,(x2,(x3,())))=true):Rounds pre4 lN fn4 (x1,(x2,(x3,()))) (eA x1 x2 x3):=by
 unfold eA
 by_cases hlt:x3<(x1.length:Int)
 . obtain⟨h1,h2,h3,h4⟩:=uS hp hlt pF
   simp only[letB,hlt,h1,h2,decide_true,if_true]
   by_cases h:x1.getD x3.toNat pF=x2.getD x3.toNat pF
   . rw[if_neg (by rw[lV,cF.2 h];simp)];exact h3 h
   . rw[if_pos (by rw[lV,aM.2 h];rfl)];exact h4 h
 . simp only[hlt,decide_false,Zj,if_false]
   exact yP hp hlt
theorem eq(x0 x1:List bS)(hw:wf x0 x1):aQ x0 x1=some ((),(jF x0 x1,())):=by
 have h1:x0.length<=maxLen:=hw.1.1
 unfold aQ jF
 by_cases hl:(x0.length:Int)=(x1.length:Int)
 . rw[if_neg (by simp[hl]),if_pos (show pre4 _=true from sR h1 hl)]
   unfold fn4
   by_cases he:x0=x1
   . rw[uW he,cF.2 he];rfl
   . rw[uQ he,aM.2 he];rfl
 . have:¬x0=x1:=fun h=>hl (by rw[h])
   rw[if_pos (by simp[hl]),aM.2 this]
end jF
def eJ(xs:List bS)(k:Int):List bS×Int:=(oL rF cL xs k,k+bK cL xs)
namespace eJ
def pre(xs:List bS)(k:Int):Bool:=xY cL xs k
def pre2:=qX cL
def fn2:=aC8 rF cL
def mA:=aDe (α:=bS)
noncomputable def dT(x1:Int)(x2:Int)(x3:(List bS)):Option ((Int×(Int×((List bS)×Unit)))⊕(Int×((List bS)×Unit))):=
 if(decide (x2<((length x3:Nat):Int)))=true then
 if(decide ((0:Int)<=x2))=true then
 if(decide (x2<((length x3:Nat):Int)))=true then
 if(decide ((0:Int)<=x2))=true then
 if(decide (x2<((length (List.modify x3 (Int.toNat x2) (fun z=>(x1,z.2))):Nat):Int)))=true then
 if(decide ((0:Int)<=x2))=true then
 if(decide (x2<((length (List.modify (List.modify x3 (Int.toNat x2) (fun z=>(x1,z.2))) (Int.toNat x2) (fun z=>(z.1,((wrap .i64 (x1+(1:Int))),z.2.2)))):Nat):Int)))=true then
 if(dY.pre (List.getD (List.modify (List.modify x3 (Int.toNat x2) (fun z=>(x1,z.2))) (Int.toNat x2) (fun z=>(z.1,((wrap .i64 (x1+(1:Int))),z.2.2)))) (Int.toNat x2) pF).2.2.1 (wrap .i64 ((wrap .i64 (x1+(1:Int)))+(1:Int))))=true then
 letB (dY (List.getD (List.modify (List.modify x3 (Int.toNat x2) (fun z=>(x1,z.2))) (Int.toNat x2) (fun z=>(z.1,((wrap .i64 (x1+(1:Int))),z.2.2)))) (Int.toNat x2) pF).2.2.1 (wrap .i64 ((wrap .i64 (x1+(1:Int)))+(1:Int)))) fun v1=>
 some (.inl (v1.2,((wrap .i64 (x2+(1:Int))),((List.modify (List.modify (List.modify x3 (Int.toNat x2) (fun z=>(x1,z.2))) (Int.toNat x2) (fun z=>(z.1,((wrap .i64 (x1+(1:Int))),z.2.2)))) (Int.toNat x2) (fun z=>(z.1,(z.2.1,(v1.1,z.2.2.2))))),()))))
 else
 none
 else
 none
 else
 none
 else
 none
 else
 none
 else
 none
 else
 none
 else
 some (.inr (x1,(x3,())))
abbrev wf(x0:(List bS))(x1:Int):Prop:=hN [(.mut (.sl 0 sZ)),(.val (.int .i64) .f)] (x0,(x1,()))
noncomputable def aQ(x0:(List bS))(x1:Int):Option (((List bS)×Unit)×(Int×Unit)):=
 if(eJ.pre2 (x1,((0:Int),(x0,()))))=true then
 letB (eJ.fn2 (x1,((0:Int),(x0,())))) fun v1=>
 some (v1.2,(v1.1,()))
 else
 none
theorem rR(x1 x2:Int)(x3:List bS)(hp:pre2 (x1,(x2,(x3,())))=true):Rounds pre2 mA fn2 (x1,(x2,(x3,()))) (dT x1 x2 x3):=by
 unfold dT
 by_cases hlt:x2<(x3.length:Int)
 . obtain⟨h0,hk,hc,hn⟩:=qY mX hp hlt pF
   generalize he:x3.getD x2.toNat pF=e at hc
   simp only[cL] at hc
   have n2:=fV lW e.2.2.1
   have w0:wrap .i64 (x1+1)=x1+1:=lF (by omega) (by omega)
   have w1:wrap .i64 (x1+1+1)=x1+1+1:=lF (by omega) (by omega)
   have q2:dY.pre e.2.2.1 (x1+1+1)=true:=aE7 (by omega) (by omega)
   simp only[letB,List.length_modify,List.modify_modify_eq,nU hn,Function.comp,hlt,h0,he,decide_true,if_true,w0,w1,q2,aF8]
   exact vF mX hp hlt pF (by rw[he];simp only[cL];omega) (by rw[he];rfl)
 . rw[if_neg (by simp[hlt])];exact zE hp hlt
theorem eq(x0:List bS)(x1:Int)(_:wf x0 x1)(hp:pre x0 x1=true):aQ x0 x1=some (((eJ x0 x1).1,()),((eJ x0 x1).2,())):=by
 unfold aQ
 rw[if_pos (show pre2 _=true from sT mX hp)]
 rfl
end eJ
theorem aGe(xs:List bS)(k:Int):eJ xs k=(oL rF cL xs k,k+bK cL xs):=rfl
theorem aFe{xs:List bS}{k:Int}(h0:0<=k)(h1:k+bK cL xs<=134217728):eJ.pre xs k=true:=lP.2 ⟨h0,h1⟩
noncomputable def eC(xs:List bS)(k:Int):Int:=vG (oL rF cL) (bK cL) xs k
namespace eC
def pre(xs:List bS)(k:Int):Bool:=xY cL xs k
def pre2:=pW cL
noncomputable def fn2:=aAz rF cL
def mA:=aCS (α:=bS)
noncomputable def dT(x1:(List bS))(x2:Int)(x3:Int):Option (((List bS)×aY)⊕((Int×Unit)⊕(Int×Unit))):=
 if(decide (x3<((length x1:Nat):Int)))=true then
 if(decide ((0:Int)<=x3))=true then
 if(decide (x3<((length x1:Nat):Int)))=true then
 if(!(decide ((List.getD x1 (Int.toNat x3) pF).1=x2)))=true then
 some (.inr (.inl ((-1:Int),())))
 else
 if(decide ((0:Int)<=x3))=true then
 if(decide (x3<((length x1:Nat):Int)))=true then
 if(!(decide ((List.getD x1 (Int.toNat x3) pF).2.1=(wrap .i64 (x2+(1:Int))))))=true then
 some (.inr (.inl ((-1:Int),())))
 else
 if(decide ((0:Int)<=x3))=true then
 if(decide (x3<((length x1:Nat):Int)))=true then
 if(dQ.pre (List.getD x1 (Int.toNat x3) pF).2.2.1 (wrap .i64 ((wrap .i64 (x2+(1:Int)))+(1:Int))))=true then
 letB (dQ (List.getD x1 (Int.toNat x3) pF).2.2.1 (wrap .i64 ((wrap .i64 (x2+(1:Int)))+(1:Int)))) fun v1=>
 if(decide (v1<(0:Int)))=true then
 some (.inr (.inl ((-1:Int),())))
 else
 some (.inl (x1,(v1,((wrap .i64 (x3+(1:Int))),()))))
 else
 none
 else
 none
 else
 none
 else
 none
 else
 none
 else
 none
 else
 none
 else
 some (.inr (.inr (x2,())))
abbrev wf(x0:(List bS))(x1:Int):Prop:=hN [(.val (.sl 0 sZ) .f),(.val (.int .i64) .f)] (x0,(x1,()))
noncomputable def aQ(x0:(List bS))(x1:Int):Option uK:=
 if(eC.pre2 (x0,(x1,((0:Int),()))))=true then
  letB (eC.fn2 (x0,(x1,((0:Int),())))) fun v1=>
  match v1 with
  |.inl y=>
   some ((),y)
  |.inr y=>
   some ((),y)
 else
  none
theorem rR(x1:List bS)(x2 x3:Int)(hp:pre2 (x1,(x2,(x3,())))=true):Rounds pre2 mA fn2 (x1,(x2,(x3,()))) (dT x1 x2 x3):=by
 unfold dT
 by_cases hlt:x3<(x1.length:Int)
 . obtain⟨h0,hk,hc⟩:=uE mX hp hlt pF
   have bad:=aAx (m:=rF) (g:=cL) hp hlt pF
   have good:=fun K hK=>xB mX (K:=K) hp hlt pF hK
   generalize x1.getD x3.toNat pF=e at *
   simp only[cL] at hc
   have n2:=fV lW e.2.2.1
   have w0:wrap .i64 (x2+1)=x2+1:=lF (by omega) (by omega)
   have w1:wrap .i64 (x2+1+1)=x2+1+1:=lF (by omega) (by omega)
   have q2:dQ.pre e.2.2.1 (x2+1+1)=true:=aE6 (by omega) (by omega)
   simp only[letB,hlt,h0,decide_true,if_true,w0,w1,q2]
   by_cases c0:e.1=x2
   case neg=>rw[if_pos (by simp[c0])];exact bad fun h=>c0 (congrArg (fun z:bS=>z.1) h)
   rw[if_neg (by simp[c0])]
   by_cases c1:e.2.1=x2+1
   case neg=>rw[if_pos (by simp[c1])];exact bad fun h=>c1 (congrArg (fun z:bS=>z.2.1) h)
   rw[if_neg (by simp[c1])]
   by_cases c2:e.2.2.1=oL rH fQ e.2.2.1 (x2+1+1)
   case neg=>rw[show dQ e.2.2.1 (x2+1+1)=-1 from aE1 c2,if_pos (by decide)];exact bad fun h=>c2 ((congrArg (fun z:bS=>z.2.2.1) h).trans (by simp only[rF]))
   rw[show dQ e.2.2.1 (x2+1+1)=x2+1+1+bK fQ e.2.2.1 from aDP c2,if_neg (by rw[Za];omega)]
   exact good _ (by simp only[cL];omega) (Prod.ext c0 (Prod.ext c1 (Prod.ext c2 rfl)))
 . rw[if_neg (by simp[hlt])];exact aAl hp hlt
theorem eq(x0:List bS)(x1:Int)(_:wf x0 x1)(hp:pre x0 x1=true):aQ x0 x1=some ((),(eC x0 x1,())):=by
 unfold aQ
 rw[if_pos (show pre2 _=true from uB mX hp)]
 exact qF x0 x1
end eC
theorem aEX{xs:List bS}{k:Int}(h:xs=oL rF cL xs k):eC xs k=k+bK cL xs:=oO h
theorem aF1{xs:List bS}{k:Int}(h:¬xs=oL rF cL xs k):eC xs k=-1:=mF h
theorem aER{xs:List bS}{k:Int}(h0:0<=k)(h1:k+bK cL xs<=134217728):eC.pre xs k=true:=lP.2 ⟨h0,h1⟩
def nA(x:aC)(k:Int):aC:=(k,(k+1,(k+1+1,(k+1+1+1,(oL rL fO x.2.2.2.2.1 (k+1+1+1+1),())))))
def bM(x:aC):Int:=4+bK fO x.2.2.2.2.1
theorem kW:yK nA bM:=by
 refine⟨fun x=>?_,fun x k=>?_,fun x k=>?_⟩
 . have n4:=fV lU x.2.2.2.2.1
   simp only[bM];omega
 . simp only[bM,nA,kO lU]
 . simp only[nA,kO lU,sO lU]
noncomputable def jQ(a b:aC):Bool:=same a b
namespace jQ
abbrev wf(x0:aC)(x1:aC):Prop:=hN [(.val vJ .f),(.val vJ .f)] (x0,(x1,()))
noncomputable def aQ(x0:aC)(x1:aC):Option mO:=
 if(!(decide (x0.1=x1.1)))=true then
 some ((),(false,()))
 else
 if(!(decide (x0.2.1=x1.2.1)))=true then
 some ((),(false,()))
 else
 if(!(decide (x0.2.2.1=x1.2.2.1)))=true then
 some ((),(false,()))
 else
 if(!(decide (x0.2.2.2.1=x1.2.2.2.1)))=true then
 some ((),(false,()))
 else
 letB (iB x0.2.2.2.2.1 x1.2.2.2.2.1) fun v1=>
 if(!v1)=true then
 some ((),(false,()))
 else
 some ((),(true,()))
theorem eq(x0 x1:aC)(_:wf x0 x1):aQ x0 x1=some ((),(jQ x0 x1,())):=by
 unfold aQ jQ
 try simp only[letB]
 by_cases c0:x0.1=x1.1
 case neg=>rw[if_pos (by simp[c0]),aM.2 (fun h=>c0 (congrArg (fun z:aC=>z.1) h))]
 rw[if_neg (by simp[c0])]
 by_cases c1:x0.2.1=x1.2.1
 case neg=>rw[if_pos (by simp[c1]),aM.2 (fun h=>c1 (congrArg (fun z:aC=>z.2.1) h))]
 rw[if_neg (by simp[c1])]
 by_cases c2:x0.2.2.1=x1.2.2.1
 case neg=>rw[if_pos (by simp[c2]),aM.2 (fun h=>c2 (congrArg (fun z:aC=>z.2.2.1) h))]
 rw[if_neg (by simp[c2])]
 by_cases c3:x0.2.2.2.1=x1.2.2.2.1
 case neg=>rw[if_pos (by simp[c3]),aM.2 (fun h=>c3 (congrArg (fun z:aC=>z.2.2.2.1) h))]
 rw[if_neg (by simp[c3])]
 by_cases c4:x0.2.2.2.2.1=x1.2.2.2.2.1
 case neg=>rw[if_pos (by rw[iB,aM.2 c4];rfl),aM.2 (fun h=>c4 (congrArg (fun z:aC=>z.2.2.2.2.1) h))]
 rw[if_neg (by rw[iB,cF.2 c4];simp)]
 rw[cF.2 (Prod.ext c0 (Prod.ext c1 (Prod.ext c2 (Prod.ext c3 (Prod.ext c4 rfl)))))]
end jQ
noncomputable def gF(a b:List aC):Bool:=same a b
namespace gF
def pre4:=rV (α:=aC)
noncomputable def fn4:=yL (α:=aC)
def lN:=aCc (α:=aC)
noncomputable def eA(x1:(List aC))(x2:(List aC))(x3:Int):Option (((List aC)×((List aC)×(Int×Unit)))⊕((Bool×Unit)⊕Unit)):=
 if(decide (x3<((length x1:Nat):Int)))=true then
 if(decide ((0:Int)<=x3))=true then
 if(decide (x3<((length x1:Nat):Int)))=true then
 if(decide ((0:Int)<=x3))=true then
 if(decide (x3<((length x2:Nat):Int)))=true then
 letB (jQ (List.getD x1 (Int.toNat x3) jY) (List.getD x2 (Int.toNat x3) jY)) fun v1=>
 if(!v1)=true then
 some (.inr (.inl (false,())))
 else
 some (.inl (x1,(x2,((wrap .i64 (x3+(1:Int))),()))))
 else
 none
 else
 none
 else
 none
 else
 none
 else
 some (.inr (.inr ()))
abbrev wf(x0:(List aC))(x1:(List aC)):Prop:=hN [(.val (.sl 0 vJ) .f),(.val (.sl 0 vJ) .f)] (x0,(x1,()))
noncomputable def aQ(x0:(List aC))(x1:(List aC)):Option mO:=
 if(!(decide (((length x0:Nat):Int)=((length x1:Nat):Int))))=true then
  some ((),(false,()))
 else
  if(gF.pre4 (x0,(x1,((0:Int),()))))=true then
   letB (gF.fn4 (x0,(x1,((0:Int),())))) fun v1=>
   match v1 with
   |.inl y=>
    some ((),y)
   |.inr y=>
    some ((),(true,()))
  else
   none
theorem uM(x1 x2:List aC)(x3:Int)(hp:pre4 (x1,(x2,(x3,())))=true):Rounds pre4 lN fn4 (x1,(x2,(x3,()))) (eA x1 x2 x3):=by
 unfold eA
 by_cases hlt:x3<(x1.length:Int)
 . obtain⟨h1,h2,h3,h4⟩:=uS hp hlt jY
   simp only[letB,hlt,h1,h2,decide_true,if_true]
   by_cases h:x1.getD x3.toNat jY=x2.getD x3.toNat jY
   . rw[if_neg (by rw[jQ,cF.2 h];simp)];exact h3 h
   . rw[if_pos (by rw[jQ,aM.2 h];rfl)];exact h4 h
 . simp only[hlt,decide_false,Zj,if_false]
   exact yP hp hlt
theorem eq(x0 x1:List aC)(hw:wf x0 x1):aQ x0 x1=some ((),(gF x0 x1,())):=by
 have h1:x0.length<=maxLen:=hw.1.1
 unfold aQ gF
 by_cases hl:(x0.length:Int)=(x1.length:Int)
 . rw[if_neg (by simp[hl]),if_pos (show pre4 _=true from sR h1 hl)]
   unfold fn4
   by_cases he:x0=x1
   . rw[uW he,cF.2 he];rfl
   . rw[uQ he,aM.2 he];rfl
 . have:¬x0=x1:=fun h=>hl (by rw[h])
   rw[if_pos (by simp[hl]),aM.2 this]
end gF
def dO(xs:List aC)(k:Int):List aC×Int:=(oL nA bM xs k,k+bK bM xs)
namespace dO
def pre(xs:List aC)(k:Int):Bool:=xY bM xs k
def pre2:=qX bM
def fn2:=aC8 nA bM
def mA:=aDe (α:=aC)
noncomputable def dT(x1:Int)(x2:Int)(x3:(List aC)):Option ((Int×(Int×yJ))⊕(Int×yJ)):=
 if(decide (x2<((length x3:Nat):Int)))=true then
 if(decide ((0:Int)<=x2))=true then
 if(decide (x2<((length x3:Nat):Int)))=true then
 if(decide ((0:Int)<=x2))=true then
 if(decide (x2<((length (List.modify x3 (Int.toNat x2) (fun z=>(x1,z.2))):Nat):Int)))=true then
 if(decide ((0:Int)<=x2))=true then
 if(decide (x2<((length (List.modify (List.modify x3 (Int.toNat x2) (fun z=>(x1,z.2))) (Int.toNat x2) (fun z=>(z.1,((wrap .i64 (x1+(1:Int))),z.2.2)))):Nat):Int)))=true then
 if(decide ((0:Int)<=x2))=true then
 if(decide (x2<((length (List.modify (List.modify (List.modify x3 (Int.toNat x2) (fun z=>(x1,z.2))) (Int.toNat x2) (fun z=>(z.1,((wrap .i64 (x1+(1:Int))),z.2.2)))) (Int.toNat x2) (fun z=>(z.1,(z.2.1,((wrap .i64 ((wrap .i64 (x1+(1:Int)))+(1:Int))),z.2.2.2))))):Nat):Int)))=true then
 if(decide ((0:Int)<=x2))=true then
 if(decide (x2<((length (List.modify (List.modify (List.modify (List.modify x3 (Int.toNat x2) (fun z=>(x1,z.2))) (Int.toNat x2) (fun z=>(z.1,((wrap .i64 (x1+(1:Int))),z.2.2)))) (Int.toNat x2) (fun z=>(z.1,(z.2.1,((wrap .i64 ((wrap .i64 (x1+(1:Int)))+(1:Int))),z.2.2.2))))) (Int.toNat x2) (fun z=>(z.1,(z.2.1,(z.2.2.1,((wrap .i64 ((wrap .i64 ((wrap .i64 (x1+(1:Int)))+(1:Int)))+(1:Int))),z.2.2.2.2)))))):Nat):Int)))=true then
 if(dZ.pre (List.getD (List.modify (List.modify (List.modify (List.modify x3 (Int.toNat x2) (fun z=>(x1,z.2))) (Int.toNat x2) (fun z=>(z.1,((wrap .i64 (x1+(1:Int))),z.2.2)))) (Int.toNat x2) (fun z=>(z.1,(z.2.1,((wrap .i64 ((wrap .i64 (x1+(1:Int)))+(1:Int))),z.2.2.2))))) (Int.toNat x2) (fun z=>(z.1,(z.2.1,(z.2.2.1,((wrap .i64 ((wrap .i64 ((wrap .i64 (x1+(1:Int)))+(1:Int)))+(1:Int))),z.2.2.2.2)))))) (Int.toNat x2) jY).2.2.2.2.1 (wrap .i64 ((wrap .i64 ((wrap .i64 ((wrap .i64 (x1+(1:Int)))+(1:Int)))+(1:Int)))+(1:Int))))=true then
 letB (dZ (List.getD (List.modify (List.modify (List.modify (List.modify x3 (Int.toNat x2) (fun z=>(x1,z.2))) (Int.toNat x2) (fun z=>(z.1,((wrap .i64 (x1+(1:Int))),z.2.2)))) (Int.toNat x2) (fun z=>(z.1,(z.2.1,((wrap .i64 ((wrap .i64 (x1+(1:Int)))+(1:Int))),z.2.2.2))))) (Int.toNat x2) (fun z=>(z.1,(z.2.1,(z.2.2.1,((wrap .i64 ((wrap .i64 ((wrap .i64 (x1+(1:Int)))+(1:Int)))+(1:Int))),z.2.2.2.2)))))) (Int.toNat x2) jY).2.2.2.2.1 (wrap .i64 ((wrap .i64 ((wrap .i64 ((wrap .i64 (x1+(1:Int)))+(1:Int)))+(1:Int)))+(1:Int)))) fun v1=>
 some (.inl (v1.2,((wrap .i64 (x2+(1:Int))),((List.modify (List.modify (List.modify (List.modify (List.modify x3 (Int.toNat x2) (fun z=>(x1,z.2))) (Int.toNat x2) (fun z=>(z.1,((wrap .i64 (x1+(1:Int))),z.2.2)))) (Int.toNat x2) (fun z=>(z.1,(z.2.1,((wrap .i64 ((wrap .i64 (x1+(1:Int)))+(1:Int))),z.2.2.2))))) (Int.toNat x2) (fun z=>(z.1,(z.2.1,(z.2.2.1,((wrap .i64 ((wrap .i64 ((wrap .i64 (x1+(1:Int)))+(1:Int)))+(1:Int))),z.2.2.2.2)))))) (Int.toNat x2) (fun z=>(z.1,(z.2.1,(z.2.2.1,(z.2.2.2.1,(v1.1,z.2.2.2.2.2))))))),()))))
 else
 none
 else
 none
 else
 none
 else
 none
 else
 none
 else
 none
 else
 none
 else
 none
 else
 none
 else
 none
 else
 none
 else
 some (.inr (x1,(x3,())))
abbrev wf(x0:(List aC))(x1:Int):Prop:=hN [(.mut (.sl 0 vJ)),(.val (.int .i64) .f)] (x0,(x1,()))
noncomputable def aQ(x0:(List aC))(x1:Int):Option (yJ×(Int×Unit)):=
 if(dO.pre2 (x1,((0:Int),(x0,()))))=true then
 letB (dO.fn2 (x1,((0:Int),(x0,())))) fun v1=>
 some (v1.2,(v1.1,()))
 else
 none
theorem rR(x1 x2:Int)(x3:List aC)(hp:pre2 (x1,(x2,(x3,())))=true):Rounds pre2 mA fn2 (x1,(x2,(x3,()))) (dT x1 x2 x3):=by
 unfold dT
 by_cases hlt:x2<(x3.length:Int)
 . obtain⟨h0,hk,hc,hn⟩:=qY kW hp hlt jY
   generalize he:x3.getD x2.toNat jY=e at hc
   simp only[bM] at hc
   have n4:=fV lU e.2.2.2.2.1
   have w0:wrap .i64 (x1+1)=x1+1:=lF (by omega) (by omega)
   have w1:wrap .i64 (x1+1+1)=x1+1+1:=lF (by omega) (by omega)
   have w2:wrap .i64 (x1+1+1+1)=x1+1+1+1:=lF (by omega) (by omega)
   have w3:wrap .i64 (x1+1+1+1+1)=x1+1+1+1+1:=lF (by omega) (by omega)
   have q4:dZ.pre e.2.2.2.2.1 (x1+1+1+1+1)=true:=aDT (by omega) (by omega)
   simp only[letB,List.length_modify,List.modify_modify_eq,nU hn,Function.comp,hlt,h0,he,decide_true,if_true,w0,w1,w2,w3,q4,aF3]
   exact vF kW hp hlt jY (by rw[he];simp only[bM];omega) (by rw[he];rfl)
 . rw[if_neg (by simp[hlt])];exact zE hp hlt
theorem eq(x0:List aC)(x1:Int)(_:wf x0 x1)(hp:pre x0 x1=true):aQ x0 x1=some (((dO x0 x1).1,()),((dO x0 x1).2,())):=by
 unfold aQ
 rw[if_pos (show pre2 _=true from sT kW hp)]
 rfl
end dO
theorem aE4(xs:List aC)(k:Int):dO xs k=(oL nA bM xs k,k+bK bM xs):=rfl
theorem aCF{xs:List aC}{k:Int}(h0:0<=k)(h1:k+bK bM xs<=134217728):dO.pre xs k=true:=lP.2 ⟨h0,h1⟩
noncomputable def dG(xs:List aC)(k:Int):Int:=vG (oL nA bM) (bK bM) xs k
namespace dG
def pre(xs:List aC)(k:Int):Bool:=xY bM xs k
def pre2:=pW bM
noncomputable def fn2:=aAz nA bM
def mA:=aCS (α:=aC)
noncomputable def dT(x1:(List aC))(x2:Int)(x3:Int):Option (((List aC)×aY)⊕((Int×Unit)⊕(Int×Unit))):=
 if(decide (x3<((length x1:Nat):Int)))=true then
 if(decide ((0:Int)<=x3))=true then
 if(decide (x3<((length x1:Nat):Int)))=true then
 if(!(decide ((List.getD x1 (Int.toNat x3) jY).1=x2)))=true then
 some (.inr (.inl ((-1:Int),())))
 else
 if(decide ((0:Int)<=x3))=true then
 if(decide (x3<((length x1:Nat):Int)))=true then
 if(!(decide ((List.getD x1 (Int.toNat x3) jY).2.1=(wrap .i64 (x2+(1:Int))))))=true then
 some (.inr (.inl ((-1:Int),())))
 else
 if(decide ((0:Int)<=x3))=true then
 if(decide (x3<((length x1:Nat):Int)))=true then
 if(!(decide ((List.getD x1 (Int.toNat x3) jY).2.2.1=(wrap .i64 ((wrap .i64 (x2+(1:Int)))+(1:Int))))))=true then
 some (.inr (.inl ((-1:Int),())))
 else
 if(decide ((0:Int)<=x3))=true then
 if(decide (x3<((length x1:Nat):Int)))=true then
 if(!(decide ((List.getD x1 (Int.toNat x3) jY).2.2.2.1=(wrap .i64 ((wrap .i64 ((wrap .i64 (x2+(1:Int)))+(1:Int)))+(1:Int))))))=true then
 some (.inr (.inl ((-1:Int),())))
 else
 if(decide ((0:Int)<=x3))=true then
 if(decide (x3<((length x1:Nat):Int)))=true then
 if(dP.pre (List.getD x1 (Int.toNat x3) jY).2.2.2.2.1 (wrap .i64 ((wrap .i64 ((wrap .i64 ((wrap .i64 (x2+(1:Int)))+(1:Int)))+(1:Int)))+(1:Int))))=true then
 letB (dP (List.getD x1 (Int.toNat x3) jY).2.2.2.2.1 (wrap .i64 ((wrap .i64 ((wrap .i64 ((wrap .i64 (x2+(1:Int)))+(1:Int)))+(1:Int)))+(1:Int)))) fun v1=>
 if(decide (v1<(0:Int)))=true then
 some (.inr (.inl ((-1:Int),())))
 else
 some (.inl (x1,(v1,((wrap .i64 (x3+(1:Int))),()))))
 else
 none
 else
 none
 else
 none
 else
 none
 else
 none
 else
 none
 else
 none
 else
 none
 else
 none
 else
 none
 else
 none
 else
 some (.inr (.inr (x2,())))
abbrev wf(x0:(List aC))(x1:Int):Prop:=hN [(.val (.sl 0 vJ) .f),(.val (.int .i64) .f)] (x0,(x1,()))
noncomputable def aQ(x0:(List aC))(x1:Int):Option uK:=
 if(dG.pre2 (x0,(x1,((0:Int),()))))=true then
  letB (dG.fn2 (x0,(x1,((0:Int),())))) fun v1=>
  match v1 with
  |.inl y=>
   some ((),y)
  |.inr y=>
   some ((),y)
 else
  none
theorem rR(x1:List aC)(x2 x3:Int)(hp:pre2 (x1,(x2,(x3,())))=true):Rounds pre2 mA fn2 (x1,(x2,(x3,()))) (dT x1 x2 x3):=by
 unfold dT
 by_cases hlt:x3<(x1.length:Int)
 . obtain⟨h0,hk,hc⟩:=uE kW hp hlt jY
   have bad:=aAx (m:=nA) (g:=bM) hp hlt jY
   have good:=fun K hK=>xB kW (K:=K) hp hlt jY hK
   generalize x1.getD x3.toNat jY=e at *
   simp only[bM] at hc
   have n4:=fV lU e.2.2.2.2.1
   have w0:wrap .i64 (x2+1)=x2+1:=lF (by omega) (by omega)
   have w1:wrap .i64 (x2+1+1)=x2+1+1:=lF (by omega) (by omega)
   have w2:wrap .i64 (x2+1+1+1)=x2+1+1+1:=lF (by omega) (by omega)
   have w3:wrap .i64 (x2+1+1+1+1)=x2+1+1+1+1:=lF (by omega) (by omega)
   have q4:dP.pre e.2.2.2.2.1 (x2+1+1+1+1)=true:=aDQ (by omega) (by omega)
   simp only[letB,hlt,h0,decide_true,if_true,w0,w1,w2,w3,q4]
   by_cases c0:e.1=x2
   case neg=>rw[if_pos (by simp[c0])];exact bad fun h=>c0 (congrArg (fun z:aC=>z.1) h)
   rw[if_neg (by simp[c0])]
   by_cases c1:e.2.1=x2+1
   case neg=>rw[if_pos (by simp[c1])];exact bad fun h=>c1 (congrArg (fun z:aC=>z.2.1) h)
   rw[if_neg (by simp[c1])]
   by_cases c2:e.2.2.1=x2+1+1
   case neg=>rw[if_pos (by simp[c2])];exact bad fun h=>c2 (congrArg (fun z:aC=>z.2.2.1) h)
   rw[if_neg (by simp[c2])]
   by_cases c3:e.2.2.2.1=x2+1+1+1
   case neg=>rw[if_pos (by simp[c3])];exact bad fun h=>c3 (congrArg (fun z:aC=>z.2.2.2.1) h)
   rw[if_neg (by simp[c3])]
   by_cases c4:e.2.2.2.2.1=oL rL fO e.2.2.2.2.1 (x2+1+1+1+1)
   case neg=>rw[show dP e.2.2.2.2.1 (x2+1+1+1+1)=-1 from aE0 c4,if_pos (by decide)];exact bad fun h=>c4 ((congrArg (fun z:aC=>z.2.2.2.2.1) h).trans (by simp only[nA]))
   rw[show dP e.2.2.2.2.1 (x2+1+1+1+1)=x2+1+1+1+1+bK fO e.2.2.2.2.1 from aDW c4,if_neg (by rw[Za];omega)]
   exact good _ (by simp only[bM];omega) (Prod.ext c0 (Prod.ext c1 (Prod.ext c2 (Prod.ext c3 (Prod.ext c4 rfl)))))
 . rw[if_neg (by simp[hlt])];exact aAl hp hlt
theorem eq(x0:List aC)(x1:Int)(_:wf x0 x1)(hp:pre x0 x1=true):aQ x0 x1=some ((),(dG x0 x1,())):=by
 unfold aQ
 rw[if_pos (show pre2 _=true from uB kW hp)]
 exact qF x0 x1
end dG
theorem aCH{xs:List aC}{k:Int}(h:xs=oL nA bM xs k):dG xs k=k+bK bM xs:=oO h
theorem aCU{xs:List aC}{k:Int}(h:¬xs=oL nA bM xs k):dG xs k=-1:=mF h
theorem aCz{xs:List aC}{k:Int}(h0:0<=k)(h1:k+bK bM xs<=134217728):dG.pre xs k=true:=lP.2 ⟨h0,h1⟩
def mE(_:aF)(k:Int):aF:=(k,(k+1,(aG (k+1+1),(aG (k+1+1+1),()))))
def cM(_:aF):Int:=4
theorem gA:yK mE cM:=⟨fun _=>by simp only[cM];decide,fun _ _=>rfl,fun _ _=>rfl⟩
noncomputable def iV(a b:aF):Bool:=same a b
namespace iV
abbrev wf(x0:aF)(x1:aF):Prop:=hN [(.val aAT .f),(.val aAT .f)] (x0,(x1,()))
noncomputable def aQ(x0:aF)(x1:aF):Option mO:=
 if(!(decide (x0.1=x1.1)))=true then
 some ((),(false,()))
 else
 if(!(decide (x0.2.1=x1.2.1)))=true then
 some ((),(false,()))
 else
 if(!(x0.2.2.1==x1.2.2.1))=true then
 some ((),(false,()))
 else
 if(!(x0.2.2.2.1==x1.2.2.2.1))=true then
 some ((),(false,()))
 else
 some ((),(true,()))
theorem eq(x0 x1:aF)(_:wf x0 x1):aQ x0 x1=some ((),(iV x0 x1,())):=by
 unfold aQ iV
 try simp only[letB]
 by_cases c0:x0.1=x1.1
 case neg=>rw[if_pos (by simp[c0]),aM.2 (fun h=>c0 (congrArg (fun z:aF=>z.1) h))]
 rw[if_neg (by simp[c0])]
 by_cases c1:x0.2.1=x1.2.1
 case neg=>rw[if_pos (by simp[c1]),aM.2 (fun h=>c1 (congrArg (fun z:aF=>z.2.1) h))]
 rw[if_neg (by simp[c1])]
 by_cases c2:x0.2.2.1=x1.2.2.1
 case neg=>rw[if_pos (by simp[c2]),aM.2 (fun h=>c2 (congrArg (fun z:aF=>z.2.2.1) h))]
 rw[if_neg (by simp[c2])]
 by_cases c3:x0.2.2.2.1=x1.2.2.2.1
 case neg=>rw[if_pos (by simp[c3]),aM.2 (fun h=>c3 (congrArg (fun z:aF=>z.2.2.2.1) h))]
 rw[if_neg (by simp[c3])]
 rw[cF.2 (Prod.ext c0 (Prod.ext c1 (Prod.ext c2 (Prod.ext c3 rfl))))]
end iV
noncomputable def dK(a b:List aF):Bool:=same a b
namespace dK
def pre4:=rV (α:=aF)
noncomputable def fn4:=yL (α:=aF)
def lN:=aCc (α:=aF)
noncomputable def eA(x1:(List aF))(x2:(List aF))(x3:Int):Option (((List aF)×((List aF)×(Int×Unit)))⊕((Bool×Unit)⊕Unit)):=
 if(decide (x3<((length x1:Nat):Int)))=true then
 if(decide ((0:Int)<=x3))=true then
 if(decide (x3<((length x1:Nat):Int)))=true then
 if(decide ((0:Int)<=x3))=true then
 if(decide (x3<((length x2:Nat):Int)))=true then
 letB (iV (List.getD x1 (Int.toNat x3) ((0:Int),pQ)) (List.getD x2 (Int.toNat x3) ((0:Int),pQ))) fun v1=>
 if(!v1)=true then
 some (.inr (.inl (false,())))
 else
 some (.inl (x1,(x2,((wrap .i64 (x3+(1:Int))),()))))
 else
 none
 else
 none
 else
 none
 else
 none
 else
 some (.inr (.inr ()))
abbrev wf(x0:(List aF))(x1:(List aF)):Prop:=hN [(.val (.sl 0 aAT) .f),(.val (.sl 0 aAT) .f)] (x0,(x1,()))
noncomputable def aQ(x0:(List aF))(x1:(List aF)):Option mO:=
 if(!(decide (((length x0:Nat):Int)=((length x1:Nat):Int))))=true then
  some ((),(false,()))
 else
  if(dK.pre4 (x0,(x1,((0:Int),()))))=true then
   letB (dK.fn4 (x0,(x1,((0:Int),())))) fun v1=>
   match v1 with
   |.inl y=>
    some ((),y)
   |.inr y=>
    some ((),(true,()))
  else
   none
theorem uM(x1 x2:List aF)(x3:Int)(hp:pre4 (x1,(x2,(x3,())))=true):Rounds pre4 lN fn4 (x1,(x2,(x3,()))) (eA x1 x2 x3):=by
 unfold eA
 by_cases hlt:x3<(x1.length:Int)
 . obtain⟨h1,h2,h3,h4⟩:=uS hp hlt ((0:Int),pQ)
   simp only[letB,hlt,h1,h2,decide_true,if_true]
   by_cases h:x1.getD x3.toNat ((0:Int),pQ)=x2.getD x3.toNat ((0:Int),pQ)
   . rw[if_neg (by rw[iV,cF.2 h];simp)];exact h3 h
   . rw[if_pos (by rw[iV,aM.2 h];rfl)];exact h4 h
 . simp only[hlt,decide_false,Zj,if_false]
   exact yP hp hlt
theorem eq(x0 x1:List aF)(hw:wf x0 x1):aQ x0 x1=some ((),(dK x0 x1,())):=by
 have h1:x0.length<=maxLen:=hw.1.1
 unfold aQ dK
 by_cases hl:(x0.length:Int)=(x1.length:Int)
 . rw[if_neg (by simp[hl]),if_pos (show pre4 _=true from sR h1 hl)]
   unfold fn4
   by_cases he:x0=x1
   . rw[uW he,cF.2 he];rfl
   . rw[uQ he,aM.2 he];rfl
 . have:¬x0=x1:=fun h=>hl (by rw[h])
   rw[if_pos (by simp[hl]),aM.2 this]
end dK
def cB(xs:List aF)(k:Int):List aF×Int:=(oL mE cM xs k,k+bK cM xs)
namespace cB
def pre(xs:List aF)(k:Int):Bool:=xY cM xs k
def pre2:=qX cM
def fn2:=aC8 mE cM
def mA:=aDe (α:=aF)
noncomputable def dT(x1:Int)(x2:Int)(x3:(List aF)):Option ((Int×(Int×((List aF)×Unit)))⊕(Int×((List aF)×Unit))):=
 if(decide (x2<((length x3:Nat):Int)))=true then
 if(decide ((0:Int)<=x2))=true then
 if(decide (x2<((length x3:Nat):Int)))=true then
 if(decide ((0:Int)<=x2))=true then
 if(decide (x2<((length (List.modify x3 (Int.toNat x2) (fun z=>(x1,z.2))):Nat):Int)))=true then
 if(aG.pre (wrap .i64 ((wrap .i64 (x1+(1:Int)))+(1:Int))))=true then
 if(decide ((0:Int)<=x2))=true then
 if(decide (x2<((length (List.modify (List.modify x3 (Int.toNat x2) (fun z=>(x1,z.2))) (Int.toNat x2) (fun z=>(z.1,((wrap .i64 (x1+(1:Int))),z.2.2)))):Nat):Int)))=true then
 if(aG.pre (wrap .i64 ((wrap .i64 ((wrap .i64 (x1+(1:Int)))+(1:Int)))+(1:Int))))=true then
 if(decide ((0:Int)<=x2))=true then
 if(decide (x2<((length (List.modify (List.modify (List.modify x3 (Int.toNat x2) (fun z=>(x1,z.2))) (Int.toNat x2) (fun z=>(z.1,((wrap .i64 (x1+(1:Int))),z.2.2)))) (Int.toNat x2) (fun z=>(z.1,(z.2.1,((aG (wrap .i64 ((wrap .i64 (x1+(1:Int)))+(1:Int)))),z.2.2.2))))):Nat):Int)))=true then
 some (.inl ((wrap .i64 ((wrap .i64 ((wrap .i64 ((wrap .i64 (x1+(1:Int)))+(1:Int)))+(1:Int)))+(1:Int))),((wrap .i64 (x2+(1:Int))),((List.modify (List.modify (List.modify (List.modify x3 (Int.toNat x2) (fun z=>(x1,z.2))) (Int.toNat x2) (fun z=>(z.1,((wrap .i64 (x1+(1:Int))),z.2.2)))) (Int.toNat x2) (fun z=>(z.1,(z.2.1,((aG (wrap .i64 ((wrap .i64 (x1+(1:Int)))+(1:Int)))),z.2.2.2))))) (Int.toNat x2) (fun z=>(z.1,(z.2.1,(z.2.2.1,((aG (wrap .i64 ((wrap .i64 ((wrap .i64 (x1+(1:Int)))+(1:Int)))+(1:Int)))),z.2.2.2.2)))))),()))))
 else
 none
 else
 none
 else
 none
 else
 none
 else
 none
 else
 none
 else
 none
 else
 none
 else
 none
 else
 none
 else
 some (.inr (x1,(x3,())))
abbrev wf(x0:(List aF))(x1:Int):Prop:=hN [(.mut (.sl 0 aAT)),(.val (.int .i64) .f)] (x0,(x1,()))
noncomputable def aQ(x0:(List aF))(x1:Int):Option (((List aF)×Unit)×(Int×Unit)):=
 if(cB.pre2 (x1,((0:Int),(x0,()))))=true then
 letB (cB.fn2 (x1,((0:Int),(x0,())))) fun v1=>
 some (v1.2,(v1.1,()))
 else
 none
theorem rR(x1 x2:Int)(x3:List aF)(hp:pre2 (x1,(x2,(x3,())))=true):Rounds pre2 mA fn2 (x1,(x2,(x3,()))) (dT x1 x2 x3):=by
 unfold dT
 by_cases hlt:x2<(x3.length:Int)
 . obtain⟨h0,hk,hc,hn⟩:=qY gA hp hlt ((0:Int),pQ)
   generalize he:x3.getD x2.toNat ((0:Int),pQ)=e at hc
   simp only[cM] at hc
   have w0:wrap .i64 (x1+1)=x1+1:=lF (by omega) (by omega)
   have w1:wrap .i64 (x1+1+1)=x1+1+1:=lF (by omega) (by omega)
   have w2:wrap .i64 (x1+1+1+1)=x1+1+1+1:=lF (by omega) (by omega)
   have p2:aG.pre (x1+1+1)=true:=by simp only[aG.pre,Za];omega
   have w3:wrap .i64 (x1+1+1+1+1)=x1+1+1+1+1:=lF (by omega) (by omega)
   have p3:aG.pre (x1+1+1+1)=true:=by simp only[aG.pre,Za];omega
   simp only[letB,List.length_modify,List.modify_modify_eq,nU hn,Function.comp,hlt,h0,he,decide_true,if_true,w0,w1,w2,p2,w3,p3]
   exact vF gA hp hlt ((0:Int),pQ) (by rw[he];simp only[cM];omega) (by rw[he];rfl)
 . rw[if_neg (by simp[hlt])];exact zE hp hlt
theorem eq(x0:List aF)(x1:Int)(_:wf x0 x1)(hp:pre x0 x1=true):aQ x0 x1=some (((cB x0 x1).1,()),((cB x0 x1).2,())):=by
 unfold aQ
 rw[if_pos (show pre2 _=true from sT gA hp)]
 rfl
end cB
theorem aDE(xs:List aF)(k:Int):cB xs k=(oL mE cM xs k,k+bK cM xs):=rfl
theorem yH{xs:List aF}{k:Int}(h0:0<=k)(h1:k+bK cM xs<=134217728):cB.pre xs k=true:=lP.2 ⟨h0,h1⟩
noncomputable def bN(xs:List aF)(k:Int):Int:=vG (oL mE cM) (bK cM) xs k
namespace bN
def pre(xs:List aF)(k:Int):Bool:=xY cM xs k
def pre2:=pW cM
noncomputable def fn2:=aAz mE cM
def mA:=aCS (α:=aF)
noncomputable def dT(x1:(List aF))(x2:Int)(x3:Int):Option (((List aF)×aY)⊕((Int×Unit)⊕(Int×Unit))):=
 if(decide (x3<((length x1:Nat):Int)))=true then
 if(decide ((0:Int)<=x3))=true then
 if(decide (x3<((length x1:Nat):Int)))=true then
 if(!(decide ((List.getD x1 (Int.toNat x3) ((0:Int),pQ)).1=x2)))=true then
 some (.inr (.inl ((-1:Int),())))
 else
 if(decide ((0:Int)<=x3))=true then
 if(decide (x3<((length x1:Nat):Int)))=true then
 if(!(decide ((List.getD x1 (Int.toNat x3) ((0:Int),pQ)).2.1=(wrap .i64 (x2+(1:Int))))))=true then
 some (.inr (.inl ((-1:Int),())))
 else
 if(decide ((0:Int)<=x3))=true then
 if(decide (x3<((length x1:Nat):Int)))=true then
 if(aG.pre (wrap .i64 ((wrap .i64 (x2+(1:Int)))+(1:Int))))=true then
 letB (aG (wrap .i64 ((wrap .i64 (x2+(1:Int)))+(1:Int)))) fun v1=>
 if(!((List.getD x1 (Int.toNat x3) ((0:Int),pQ)).2.2.1==v1))=true then
 some (.inr (.inl ((-1:Int),())))
 else
 if(decide ((0:Int)<=x3))=true then
 if(decide (x3<((length x1:Nat):Int)))=true then
 if(aG.pre (wrap .i64 ((wrap .i64 ((wrap .i64 (x2+(1:Int)))+(1:Int)))+(1:Int))))=true then
 letB (aG (wrap .i64 ((wrap .i64 ((wrap .i64 (x2+(1:Int)))+(1:Int)))+(1:Int)))) fun v2=>
 if(!((List.getD x1 (Int.toNat x3) ((0:Int),pQ)).2.2.2.1==v2))=true then
 some (.inr (.inl ((-1:Int),())))
 else
 some (.inl (x1,((wrap .i64 ((wrap .i64 ((wrap .i64 ((wrap .i64 (x2+(1:Int)))+(1:Int)))+(1:Int)))+(1:Int))),((wrap .i64 (x3+(1:Int))),()))))
 else
 none
 else
 none
 else
 none
 else
 none
 else
 none
 else
 none
 else
 none
 else
 none
 else
 none
 else
 none
 else
 some (.inr (.inr (x2,())))
abbrev wf(x0:(List aF))(x1:Int):Prop:=hN [(.val (.sl 0 aAT) .f),(.val (.int .i64) .f)] (x0,(x1,()))
noncomputable def aQ(x0:(List aF))(x1:Int):Option uK:=
 if(bN.pre2 (x0,(x1,((0:Int),()))))=true then
  letB (bN.fn2 (x0,(x1,((0:Int),())))) fun v1=>
  match v1 with
  |.inl y=>
   some ((),y)
  |.inr y=>
   some ((),y)
 else
  none
theorem rR(x1:List aF)(x2 x3:Int)(hp:pre2 (x1,(x2,(x3,())))=true):Rounds pre2 mA fn2 (x1,(x2,(x3,()))) (dT x1 x2 x3):=by
 unfold dT
 by_cases hlt:x3<(x1.length:Int)
 . obtain⟨h0,hk,hc⟩:=uE gA hp hlt ((0:Int),pQ)
   have bad:=aAx (m:=mE) (g:=cM) hp hlt ((0:Int),pQ)
   have good:=fun K hK=>xB gA (K:=K) hp hlt ((0:Int),pQ) hK
   generalize x1.getD x3.toNat ((0:Int),pQ)=e at *
   simp only[cM] at hc
   have w0:wrap .i64 (x2+1)=x2+1:=lF (by omega) (by omega)
   have w1:wrap .i64 (x2+1+1)=x2+1+1:=lF (by omega) (by omega)
   have w2:wrap .i64 (x2+1+1+1)=x2+1+1+1:=lF (by omega) (by omega)
   have p2:aG.pre (x2+1+1)=true:=by simp only[aG.pre,Za];omega
   have w3:wrap .i64 (x2+1+1+1+1)=x2+1+1+1+1:=lF (by omega) (by omega)
   have p3:aG.pre (x2+1+1+1)=true:=by simp only[aG.pre,Za];omega
   simp only[letB,hlt,h0,decide_true,if_true,w0,w1,w2,p2,w3,p3]
   by_cases c0:e.1=x2
   case neg=>rw[if_pos (by simp[c0])];exact bad fun h=>c0 (congrArg (fun z:aF=>z.1) h)
   rw[if_neg (by simp[c0])]
   by_cases c1:e.2.1=x2+1
   case neg=>rw[if_pos (by simp[c1])];exact bad fun h=>c1 (congrArg (fun z:aF=>z.2.1) h)
   rw[if_neg (by simp[c1])]
   by_cases c2:e.2.2.1=aG (x2+1+1)
   case neg=>rw[if_pos (by simp[c2])];exact bad fun h=>c2 (congrArg (fun z:aF=>z.2.2.1) h)
   rw[if_neg (by simp[c2])]
   by_cases c3:e.2.2.2.1=aG (x2+1+1+1)
   case neg=>rw[if_pos (by simp[c3])];exact bad fun h=>c3 (congrArg (fun z:aF=>z.2.2.2.1) h)
   rw[if_neg (by simp[c3])]
   exact good _ (by simp only[cM];omega) (Prod.ext c0 (Prod.ext c1 (Prod.ext c2 (Prod.ext c3 rfl))))
 . rw[if_neg (by simp[hlt])];exact aAl hp hlt
theorem eq(x0:List aF)(x1:Int)(_:wf x0 x1)(hp:pre x0 x1=true):aQ x0 x1=some ((),(bN x0 x1,())):=by
 unfold aQ
 rw[if_pos (show pre2 _=true from uB gA hp)]
 exact qF x0 x1
end bN
theorem aC9{xs:List aF}{k:Int}(h:xs=oL mE cM xs k):bN xs k=k+bK cM xs:=oO h
theorem aCf{xs:List aF}{k:Int}(h:¬xs=oL mE cM xs k):bN xs k=-1:=mF h
theorem yC{xs:List aF}{k:Int}(h0:0<=k)(h1:k+bK cM xs<=134217728):bN.pre xs k=true:=lP.2 ⟨h0,h1⟩
def lY(x:aD)(k:Int):aD:=(k,(oL oX bQ x.2.1 (k+1),(oL oX bQ x.2.2.1 (k+1+bK bQ x.2.1),(oL oX bQ x.2.2.2.1 (k+1+bK bQ x.2.1+bK bQ x.2.2.1),()))))
def cD(x:aD):Int:=1+bK bQ x.2.1+bK bQ x.2.2.1+bK bQ x.2.2.2.1
theorem lA:yK lY cD:=by
 refine⟨fun x=>?_,fun x k=>?_,fun x k=>?_⟩
 . have n1:=fV fU x.2.1
   have n2:=fV fU x.2.2.1
   have n3:=fV fU x.2.2.2.1
   simp only[cD];omega
 . simp only[cD,lY,kO fU]
 . simp only[lY,kO fU,sO fU]
noncomputable def jN(a b:aD):Bool:=same a b
namespace jN
abbrev wf(x0:aD)(x1:aD):Prop:=hN [(.val qT .f),(.val qT .f)] (x0,(x1,()))
noncomputable def aQ(x0:aD)(x1:aD):Option mO:=
 if(!(decide (x0.1=x1.1)))=true then
 some ((),(false,()))
 else
 letB (dV x0.2.1 x1.2.1) fun v1=>
 if(!v1)=true then
 some ((),(false,()))
 else
 letB (dV x0.2.2.1 x1.2.2.1) fun v2=>
 if(!v2)=true then
 some ((),(false,()))
 else
 letB (dV x0.2.2.2.1 x1.2.2.2.1) fun v3=>
 if(!v3)=true then
 some ((),(false,()))
 else
 some ((),(true,()))
theorem eq(x0 x1:aD)(_:wf x0 x1):aQ x0 x1=some ((),(jN x0 x1,())):=by
 unfold aQ jN
 try simp only[letB]
 by_cases c0:x0.1=x1.1
 case neg=>rw[if_pos (by simp[c0]),aM.2 (fun h=>c0 (congrArg (fun z:aD=>z.1) h))]
 rw[if_neg (by simp[c0])]
 by_cases c1:x0.2.1=x1.2.1
 case neg=>rw[if_pos (by rw[dV,aM.2 c1];rfl),aM.2 (fun h=>c1 (congrArg (fun z:aD=>z.2.1) h))]
 rw[if_neg (by rw[dV,cF.2 c1];simp)]
 by_cases c2:x0.2.2.1=x1.2.2.1
 case neg=>rw[if_pos (by rw[dV,aM.2 c2];rfl),aM.2 (fun h=>c2 (congrArg (fun z:aD=>z.2.2.1) h))]
 rw[if_neg (by rw[dV,cF.2 c2];simp)]
 by_cases c3:x0.2.2.2.1=x1.2.2.2.1
 case neg=>rw[if_pos (by rw[dV,aM.2 c3];rfl),aM.2 (fun h=>c3 (congrArg (fun z:aD=>z.2.2.2.1) h))]
 rw[if_neg (by rw[dV,cF.2 c3];simp)]
 rw[cF.2 (Prod.ext c0 (Prod.ext c1 (Prod.ext c2 (Prod.ext c3 rfl))))]
end jN
noncomputable def gH(a b:List aD):Bool:=same a b
namespace gH
def pre4:=rV (α:=aD)
noncomputable def fn4:=yL (α:=aD)
def lN:=aCc (α:=aD)
noncomputable def eA(x1:(List aD))(x2:(List aD))(x3:Int):Option (((List aD)×((List aD)×(Int×Unit)))⊕((Bool×Unit)⊕Unit)):=
 if(decide (x3<((length x1:Nat):Int)))=true then
 if(decide ((0:Int)<=x3))=true then
 if(decide (x3<((length x1:Nat):Int)))=true then
 if(decide ((0:Int)<=x3))=true then
 if(decide (x3<((length x2:Nat):Int)))=true then
 letB (jN (List.getD x1 (Int.toNat x3) oB) (List.getD x2 (Int.toNat x3) oB)) fun v1=>
 if(!v1)=true then
 some (.inr (.inl (false,())))
 else
 some (.inl (x1,(x2,((wrap .i64 (x3+(1:Int))),()))))
 else
 none
 else
 none
 else
 none
 else
 none
 else
 some (.inr (.inr ()))
abbrev wf(x0:(List aD))(x1:(List aD)):Prop:=hN [(.val (.sl 0 qT) .f),(.val (.sl 0 qT) .f)] (x0,(x1,()))
noncomputable def aQ(x0:(List aD))(x1:(List aD)):Option mO:=
 if(!(decide (((length x0:Nat):Int)=((length x1:Nat):Int))))=true then
  some ((),(false,()))
 else
  if(gH.pre4 (x0,(x1,((0:Int),()))))=true then
   letB (gH.fn4 (x0,(x1,((0:Int),())))) fun v1=>
   match v1 with
   |.inl y=>
    some ((),y)
   |.inr y=>
    some ((),(true,()))
  else
   none
theorem uM(x1 x2:List aD)(x3:Int)(hp:pre4 (x1,(x2,(x3,())))=true):Rounds pre4 lN fn4 (x1,(x2,(x3,()))) (eA x1 x2 x3):=by
 unfold eA
 by_cases hlt:x3<(x1.length:Int)
 . obtain⟨h1,h2,h3,h4⟩:=uS hp hlt oB
   simp only[letB,hlt,h1,h2,decide_true,if_true]
   by_cases h:x1.getD x3.toNat oB=x2.getD x3.toNat oB
   . rw[if_neg (by rw[jN,cF.2 h];simp)];exact h3 h
   . rw[if_pos (by rw[jN,aM.2 h];rfl)];exact h4 h
 . simp only[hlt,decide_false,Zj,if_false]
   exact yP hp hlt
theorem eq(x0 x1:List aD)(hw:wf x0 x1):aQ x0 x1=some ((),(gH x0 x1,())):=by
 have h1:x0.length<=maxLen:=hw.1.1
 unfold aQ gH
 by_cases hl:(x0.length:Int)=(x1.length:Int)
 . rw[if_neg (by simp[hl]),if_pos (show pre4 _=true from sR h1 hl)]
   unfold fn4
   by_cases he:x0=x1
   . rw[uW he,cF.2 he];rfl
   . rw[uQ he,aM.2 he];rfl
 . have:¬x0=x1:=fun h=>hl (by rw[h])
   rw[if_pos (by simp[hl]),aM.2 this]
end gH
def dN(xs:List aD)(k:Int):List aD×Int:=(oL lY cD xs k,k+bK cD xs)
namespace dN
def pre(xs:List aD)(k:Int):Bool:=xY cD xs k
def pre2:=qX cD
def fn2:=aC8 lY cD
def mA:=aDe (α:=aD)
noncomputable def dT(x1:Int)(x2:Int)(x3:(List aD)):Option ((Int×(Int×((List aD)×Unit)))⊕(Int×((List aD)×Unit))):=
 if(decide (x2<((length x3:Nat):Int)))=true then
 if(decide ((0:Int)<=x2))=true then
 if(decide (x2<((length x3:Nat):Int)))=true then
 if(decide ((0:Int)<=x2))=true then
 if(decide (x2<((length (List.modify x3 (Int.toNat x2) (fun z=>(x1,z.2))):Nat):Int)))=true then
 if(bO.pre (List.getD (List.modify x3 (Int.toNat x2) (fun z=>(x1,z.2))) (Int.toNat x2) oB).2.1 (wrap .i64 (x1+(1:Int))))=true then
 if(decide ((0:Int)<=x2))=true then
 if(decide (x2<((length (List.modify (List.modify x3 (Int.toNat x2) (fun z=>(x1,z.2))) (Int.toNat x2) (fun z=>(z.1,((bO (List.getD (List.modify x3 (Int.toNat x2) (fun z_1=>(x1,z_1.2))) (Int.toNat x2) oB).2.1 (wrap .i64 (x1+(1:Int)))).1,z.2.2)))):Nat):Int)))=true then
 letB (bO (List.getD (List.modify x3 (Int.toNat x2) (fun z=>(x1,z.2))) (Int.toNat x2) oB).2.1 (wrap .i64 (x1+(1:Int)))) fun v1=>
 if(bO.pre (List.getD (List.modify (List.modify x3 (Int.toNat x2) (fun z=>(x1,z.2))) (Int.toNat x2) (fun z=>(z.1,((bO (List.getD (List.modify x3 (Int.toNat x2) (fun z_1=>(x1,z_1.2))) (Int.toNat x2) oB).2.1 (wrap .i64 (x1+(1:Int)))).1,z.2.2)))) (Int.toNat x2) oB).2.2.1 v1.2)=true then
 if(decide ((0:Int)<=x2))=true then
 if(decide (x2<((length (List.modify (List.modify (List.modify x3 (Int.toNat x2) (fun z=>(x1,z.2))) (Int.toNat x2) (fun z=>(z.1,(v1.1,z.2.2)))) (Int.toNat x2) (fun z=>(z.1,(z.2.1,((bO (List.getD (List.modify (List.modify x3 (Int.toNat x2) (fun z_1=>(x1,z_1.2))) (Int.toNat x2) (fun z_1=>(z_1.1,(v1.1,z_1.2.2)))) (Int.toNat x2) oB).2.2.1 v1.2).1,z.2.2.2))))):Nat):Int)))=true then
 letB (bO (List.getD (List.modify (List.modify x3 (Int.toNat x2) (fun z=>(x1,z.2))) (Int.toNat x2) (fun z=>(z.1,(v1.1,z.2.2)))) (Int.toNat x2) oB).2.2.1 v1.2) fun v2=>
 if(bO.pre (List.getD (List.modify (List.modify (List.modify x3 (Int.toNat x2) (fun z=>(x1,z.2))) (Int.toNat x2) (fun z=>(z.1,(v1.1,z.2.2)))) (Int.toNat x2) (fun z=>(z.1,(z.2.1,((bO (List.getD (List.modify (List.modify x3 (Int.toNat x2) (fun z_1=>(x1,z_1.2))) (Int.toNat x2) (fun z_1=>(z_1.1,(v1.1,z_1.2.2)))) (Int.toNat x2) oB).2.2.1 v1.2).1,z.2.2.2))))) (Int.toNat x2) oB).2.2.2.1 v2.2)=true then
 letB (bO (List.getD (List.modify (List.modify (List.modify x3 (Int.toNat x2) (fun z=>(x1,z.2))) (Int.toNat x2) (fun z=>(z.1,(v1.1,z.2.2)))) (Int.toNat x2) (fun z=>(z.1,(z.2.1,(v2.1,z.2.2.2))))) (Int.toNat x2) oB).2.2.2.1 v2.2) fun v3=>
 some (.inl (v3.2,((wrap .i64 (x2+(1:Int))),((List.modify (List.modify (List.modify (List.modify x3 (Int.toNat x2) (fun z=>(x1,z.2))) (Int.toNat x2) (fun z=>(z.1,(v1.1,z.2.2)))) (Int.toNat x2) (fun z=>(z.1,(z.2.1,(v2.1,z.2.2.2))))) (Int.toNat x2) (fun z=>(z.1,(z.2.1,(z.2.2.1,(v3.1,z.2.2.2.2)))))),()))))
 else
 none
 else
 none
 else
 none
 else
 none
 else
 none
 else
 none
 else
 none
 else
 none
 else
 none
 else
 none
 else
 none
 else
 some (.inr (x1,(x3,())))
abbrev wf(x0:(List aD))(x1:Int):Prop:=hN [(.mut (.sl 0 qT)),(.val (.int .i64) .f)] (x0,(x1,()))
noncomputable def aQ(x0:(List aD))(x1:Int):Option (((List aD)×Unit)×(Int×Unit)):=
 if(dN.pre2 (x1,((0:Int),(x0,()))))=true then
 letB (dN.fn2 (x1,((0:Int),(x0,())))) fun v1=>
 some (v1.2,(v1.1,()))
 else
 none
theorem rR(x1 x2:Int)(x3:List aD)(hp:pre2 (x1,(x2,(x3,())))=true):Rounds pre2 mA fn2 (x1,(x2,(x3,()))) (dT x1 x2 x3):=by
 unfold dT
 by_cases hlt:x2<(x3.length:Int)
 . obtain⟨h0,hk,hc,hn⟩:=qY lA hp hlt oB
   generalize he:x3.getD x2.toNat oB=e at hc
   simp only[cD] at hc
   have n1:=fV fU e.2.1
   have n2:=fV fU e.2.2.1
   have n3:=fV fU e.2.2.2.1
   have w0:wrap .i64 (x1+1)=x1+1:=lF (by omega) (by omega)
   have q1:bO.pre e.2.1 (x1+1)=true:=tJ (by omega) (by omega)
   have q2:bO.pre e.2.2.1 (x1+1+bK bQ e.2.1)=true:=tJ (by omega) (by omega)
   have q3:bO.pre e.2.2.2.1 (x1+1+bK bQ e.2.1+bK bQ e.2.2.1)=true:=tJ (by omega) (by omega)
   simp only[letB,List.length_modify,List.modify_modify_eq,nU hn,Function.comp,hlt,h0,he,decide_true,if_true,w0,q1,q2,q3,aBZ]
   exact vF lA hp hlt oB (by rw[he];simp only[cD];omega) (by rw[he];rfl)
 . rw[if_neg (by simp[hlt])];exact zE hp hlt
theorem eq(x0:List aD)(x1:Int)(_:wf x0 x1)(hp:pre x0 x1=true):aQ x0 x1=some (((dN x0 x1).1,()),((dN x0 x1).2,())):=by
 unfold aQ
 rw[if_pos (show pre2 _=true from sT lA hp)]
 rfl
end dN
theorem aDR(xs:List aD)(k:Int):dN xs k=(oL lY cD xs k,k+bK cD xs):=rfl
theorem aDc{xs:List aD}{k:Int}(h0:0<=k)(h1:k+bK cD xs<=134217728):dN.pre xs k=true:=lP.2 ⟨h0,h1⟩
noncomputable def dH(xs:List aD)(k:Int):Int:=vG (oL lY cD) (bK cD) xs k
namespace dH
def pre(xs:List aD)(k:Int):Bool:=xY cD xs k
def pre2:=pW cD
noncomputable def fn2:=aAz lY cD
def mA:=aCS (α:=aD)
noncomputable def dT(x1:(List aD))(x2:Int)(x3:Int):Option (((List aD)×aY)⊕((Int×Unit)⊕(Int×Unit))):=
 if(decide (x3<((length x1:Nat):Int)))=true then
 if(decide ((0:Int)<=x3))=true then
 if(decide (x3<((length x1:Nat):Int)))=true then
 if(!(decide ((List.getD x1 (Int.toNat x3) oB).1=x2)))=true then
 some (.inr (.inl ((-1:Int),())))
 else
 if(decide ((0:Int)<=x3))=true then
 if(decide (x3<((length x1:Nat):Int)))=true then
 if(bG.pre (List.getD x1 (Int.toNat x3) oB).2.1 (wrap .i64 (x2+(1:Int))))=true then
 letB (bG (List.getD x1 (Int.toNat x3) oB).2.1 (wrap .i64 (x2+(1:Int)))) fun v1=>
 if(decide (v1<(0:Int)))=true then
 some (.inr (.inl ((-1:Int),())))
 else
 if(decide ((0:Int)<=x3))=true then
 if(decide (x3<((length x1:Nat):Int)))=true then
 if(bG.pre (List.getD x1 (Int.toNat x3) oB).2.2.1 v1)=true then
 letB (bG (List.getD x1 (Int.toNat x3) oB).2.2.1 v1) fun v2=>
 if(decide (v2<(0:Int)))=true then
 some (.inr (.inl ((-1:Int),())))
 else
 if(decide ((0:Int)<=x3))=true then
 if(decide (x3<((length x1:Nat):Int)))=true then
 if(bG.pre (List.getD x1 (Int.toNat x3) oB).2.2.2.1 v2)=true then
 letB (bG (List.getD x1 (Int.toNat x3) oB).2.2.2.1 v2) fun v3=>
 if(decide (v3<(0:Int)))=true then
 some (.inr (.inl ((-1:Int),())))
 else
 some (.inl (x1,(v3,((wrap .i64 (x3+(1:Int))),()))))
 else
 none
 else
 none
 else
 none
 else
 none
 else
 none
 else
 none
 else
 none
 else
 none
 else
 none
 else
 none
 else
 none
 else
 some (.inr (.inr (x2,())))
abbrev wf(x0:(List aD))(x1:Int):Prop:=hN [(.val (.sl 0 qT) .f),(.val (.int .i64) .f)] (x0,(x1,()))
noncomputable def aQ(x0:(List aD))(x1:Int):Option uK:=
 if(dH.pre2 (x0,(x1,((0:Int),()))))=true then
  letB (dH.fn2 (x0,(x1,((0:Int),())))) fun v1=>
  match v1 with
  |.inl y=>
   some ((),y)
  |.inr y=>
   some ((),y)
 else
  none
theorem rR(x1:List aD)(x2 x3:Int)(hp:pre2 (x1,(x2,(x3,())))=true):Rounds pre2 mA fn2 (x1,(x2,(x3,()))) (dT x1 x2 x3):=by
 unfold dT
 by_cases hlt:x3<(x1.length:Int)
 . obtain⟨h0,hk,hc⟩:=uE lA hp hlt oB
   have bad:=aAx (m:=lY) (g:=cD) hp hlt oB
   have good:=fun K hK=>xB lA (K:=K) hp hlt oB hK
   generalize x1.getD x3.toNat oB=e at *
   simp only[cD] at hc
   have n1:=fV fU e.2.1
   have n2:=fV fU e.2.2.1
   have n3:=fV fU e.2.2.2.1
   have w0:wrap .i64 (x2+1)=x2+1:=lF (by omega) (by omega)
   have q1:bG.pre e.2.1 (x2+1)=true:=tL (by omega) (by omega)
   have q2:bG.pre e.2.2.1 (x2+1+bK bQ e.2.1)=true:=tL (by omega) (by omega)
   have q3:bG.pre e.2.2.2.1 (x2+1+bK bQ e.2.1+bK bQ e.2.2.1)=true:=tL (by omega) (by omega)
   simp only[letB,hlt,h0,decide_true,if_true,w0,q1,q2,q3]
   by_cases c0:e.1=x2
   case neg=>rw[if_pos (by simp[c0])];exact bad fun h=>c0 (congrArg (fun z:aD=>z.1) h)
   rw[if_neg (by simp[c0])]
   by_cases c1:e.2.1=oL oX bQ e.2.1 (x2+1)
   case neg=>rw[show bG e.2.1 (x2+1)=-1 from tH c1,if_pos (by decide)];exact bad fun h=>c1 ((congrArg (fun z:aD=>z.2.1) h).trans (by simp only[lY]))
   rw[show bG e.2.1 (x2+1)=x2+1+bK bQ e.2.1 from tK c1,if_neg (by rw[Za];omega)]
   try simp only[if_true,w0,q1,q2,q3]
   by_cases c2:e.2.2.1=oL oX bQ e.2.2.1 (x2+1+bK bQ e.2.1)
   case neg=>rw[show bG e.2.2.1 (x2+1+bK bQ e.2.1)=-1 from tH c2,if_pos (by decide)];exact bad fun h=>c2 ((congrArg (fun z:aD=>z.2.2.1) h).trans (by simp only[lY]))
   rw[show bG e.2.2.1 (x2+1+bK bQ e.2.1)=x2+1+bK bQ e.2.1+bK bQ e.2.2.1 from tK c2,if_neg (by rw[Za];omega)]
   try simp only[if_true,w0,q1,q2,q3]
   by_cases c3:e.2.2.2.1=oL oX bQ e.2.2.2.1 (x2+1+bK bQ e.2.1+bK bQ e.2.2.1)
   case neg=>rw[show bG e.2.2.2.1 (x2+1+bK bQ e.2.1+bK bQ e.2.2.1)=-1 from tH c3,if_pos (by decide)];exact bad fun h=>c3 ((congrArg (fun z:aD=>z.2.2.2.1) h).trans (by simp only[lY]))
   rw[show bG e.2.2.2.1 (x2+1+bK bQ e.2.1+bK bQ e.2.2.1)=x2+1+bK bQ e.2.1+bK bQ e.2.2.1+bK bQ e.2.2.2.1 from tK c3,if_neg (by rw[Za];omega)]
   exact good _ (by simp only[cD];omega) (Prod.ext c0 (Prod.ext c1 (Prod.ext c2 (Prod.ext c3 rfl))))
 . rw[if_neg (by simp[hlt])];exact aAl hp hlt
theorem eq(x0:List aD)(x1:Int)(_:wf x0 x1)(hp:pre x0 x1=true):aQ x0 x1=some ((),(dH x0 x1,())):=by
 unfold aQ
 rw[if_pos (show pre2 _=true from uB lA hp)]
 exact qF x0 x1
end dH
theorem aCO{xs:List aD}{k:Int}(h:xs=oL lY cD xs k):dH xs k=k+bK cD xs:=oO h
theorem aCQ{xs:List aD}{k:Int}(h:¬xs=oL lY cD xs k):dH xs k=-1:=mF h
theorem aCK{xs:List aD}{k:Int}(h0:0<=k)(h1:k+bK cD xs<=134217728):dH.pre xs k=true:=lP.2 ⟨h0,h1⟩
def oF(x:bA)(k:Int):bA:=(oL rF cL x.1 (k),(oL nA bM x.2.1 (k+bK cL x.1),(oL lY cD x.2.2.1 (k+bK cL x.1+bK bM x.2.1),(x.2.2.2.1,(oL oX bQ x.2.2.2.2.1 (k+bK cL x.1+bK bM x.2.1+bK cD x.2.2.1),(oL mE cM x.2.2.2.2.2.1 (k+bK cL x.1+bK bM x.2.1+bK cD x.2.2.1+bK bQ x.2.2.2.2.1),()))))))
def eD(x:bA):Int:=bK cL x.1+bK bM x.2.1+bK cD x.2.2.1+bK bQ x.2.2.2.2.1+bK cM x.2.2.2.2.2.1
theorem aFv(x:bA):0<=eD x:=by
 have n0:=fV mX x.1
 have n1:=fV kW x.2.1
 have n2:=fV lA x.2.2.1
 have n4:=fV fU x.2.2.2.2.1
 have n5:=fV gA x.2.2.2.2.2.1
 simp only[eD];omega
theorem aAg(x:bA)(k:Int):eD (oF x k)=eD x:=by simp only[eD,oF,kO gA,kO lA,kO fU,kO kW,kO mX]
theorem aDU(x:bA)(k:Int):oF (oF x k) k=oF x k:=by simp only[oF,kO gA,kO lA,kO fU,kO kW,kO mX,sO gA,sO lA,sO fU,sO kW,sO mX]
noncomputable def jZ(a b:bA):Bool:=same a b
namespace jZ
abbrev wf(x0:bA)(x1:bA):Prop:=hN [(.val zk1 .f),(.val zk1 .f)] (x0,(x1,()))
noncomputable def aQ(x0:bA)(x1:bA):Option mO:=
 letB (jF x0.1 x1.1) fun v1=>
 if(!v1)=true then
 some ((),(false,()))
 else
 letB (gF x0.2.1 x1.2.1) fun v2=>
 if(!v2)=true then
 some ((),(false,()))
 else
 letB (gH x0.2.2.1 x1.2.2.1) fun v3=>
 if(!v3)=true then
 some ((),(false,()))
 else
 if(!(decide (x0.2.2.2.1=x1.2.2.2.1)))=true then
 some ((),(false,()))
 else
 letB (dV x0.2.2.2.2.1 x1.2.2.2.2.1) fun v4=>
 if(!v4)=true then
 some ((),(false,()))
 else
 letB (dK x0.2.2.2.2.2.1 x1.2.2.2.2.2.1) fun v5=>
 if(!v5)=true then
 some ((),(false,()))
 else
 some ((),(true,()))
theorem eq(x0 x1:bA)(_:wf x0 x1):aQ x0 x1=some ((),(jZ x0 x1,())):=by
 unfold aQ jZ
 try simp only[letB]
 by_cases c0:x0.1=x1.1
 case neg=>rw[if_pos (by rw[jF,aM.2 c0];rfl),aM.2 (fun h=>c0 (congrArg (fun z:bA=>z.1) h))]
 rw[if_neg (by rw[jF,cF.2 c0];simp)]
 by_cases c1:x0.2.1=x1.2.1
 case neg=>rw[if_pos (by rw[gF,aM.2 c1];rfl),aM.2 (fun h=>c1 (congrArg (fun z:bA=>z.2.1) h))]
 rw[if_neg (by rw[gF,cF.2 c1];simp)]
 by_cases c2:x0.2.2.1=x1.2.2.1
 case neg=>rw[if_pos (by rw[gH,aM.2 c2];rfl),aM.2 (fun h=>c2 (congrArg (fun z:bA=>z.2.2.1) h))]
 rw[if_neg (by rw[gH,cF.2 c2];simp)]
 by_cases c3:x0.2.2.2.1=x1.2.2.2.1
 case neg=>rw[if_pos (by simp[c3]),aM.2 (fun h=>c3 (congrArg (fun z:bA=>z.2.2.2.1) h))]
 rw[if_neg (by simp[c3])]
 by_cases c4:x0.2.2.2.2.1=x1.2.2.2.2.1
 case neg=>rw[if_pos (by rw[dV,aM.2 c4];rfl),aM.2 (fun h=>c4 (congrArg (fun z:bA=>z.2.2.2.2.1) h))]
 rw[if_neg (by rw[dV,cF.2 c4];simp)]
 by_cases c5:x0.2.2.2.2.2.1=x1.2.2.2.2.2.1
 case neg=>rw[if_pos (by rw[dK,aM.2 c5];rfl),aM.2 (fun h=>c5 (congrArg (fun z:bA=>z.2.2.2.2.2.1) h))]
 rw[if_neg (by rw[dK,cF.2 c5];simp)]
 rw[cF.2 (Prod.ext c0 (Prod.ext c1 (Prod.ext c2 (Prod.ext c3 (Prod.ext c4 (Prod.ext c5 rfl))))))]
end jZ
def eX(x:bA)(k:Int):bA×Int:=(oF x k,k+eD x)
namespace eX
def pre(x:bA)(k:Int):Bool:=decide (0<=k)&&decide (k+eD x<=134217728)
abbrev wf(x0:bA)(x1:Int):Prop:=hN [(.mut zk1),(.val (.int .i64) .f)] (x0,(x1,()))
noncomputable def aQ(x0:bA)(x1:Int):Option ((bA×Unit)×(Int×Unit)):=
 if(eJ.pre x0.1 x1)=true then
 letB (eJ x0.1 x1) fun v1=>
 if(dO.pre x0.2.1 v1.2)=true then
 letB (dO x0.2.1 v1.2) fun v2=>
 if(dN.pre x0.2.2.1 v2.2)=true then
 letB (dN x0.2.2.1 v2.2) fun v3=>
 if(bO.pre x0.2.2.2.2.1 v3.2)=true then
 letB (bO x0.2.2.2.2.1 v3.2) fun v4=>
 if(cB.pre x0.2.2.2.2.2.1 v4.2)=true then
 letB (cB x0.2.2.2.2.2.1 v4.2) fun v5=>
 some (((v1.1,(v2.1,(v3.1,(x0.2.2.2.1,(v4.1,(v5.1,x0.2.2.2.2.2.2)))))),()),(v5.2,()))
 else
 none
 else
 none
 else
 none
 else
 none
 else
 none
theorem eq(x0:bA)(x1:Int)(_:wf x0 x1)(hp:pre x0 x1=true):aQ x0 x1=some (((eX x0 x1).1,()),((eX x0 x1).2,())):=by
 simp only[pre,Zb,Za] at hp
 simp only[eD] at hp
 have n0:=fV mX x0.1
 have n1:=fV kW x0.2.1
 have n2:=fV lA x0.2.2.1
 have n4:=fV fU x0.2.2.2.2.1
 have n5:=fV gA x0.2.2.2.2.2.1
 have q0:eJ.pre x0.1 (x1)=true:=aFe (by omega) (by omega)
 have q1:dO.pre x0.2.1 (x1+bK cL x0.1)=true:=aCF (by omega) (by omega)
 have q2:dN.pre x0.2.2.1 (x1+bK cL x0.1+bK bM x0.2.1)=true:=aDc (by omega) (by omega)
 have q4:bO.pre x0.2.2.2.2.1 (x1+bK cL x0.1+bK bM x0.2.1+bK cD x0.2.2.1)=true:=tJ (by omega) (by omega)
 have q5:cB.pre x0.2.2.2.2.2.1 (x1+bK cL x0.1+bK bM x0.2.1+bK cD x0.2.2.1+bK bQ x0.2.2.2.2.1)=true:=yH (by omega) (by omega)
 unfold aQ
 simp only[letB,if_true,q0,q1,q2,q4,q5,aDE,aDR,aBZ,aE4,aGe]
 refine congrArg some (Prod.ext rfl (Prod.ext ?_ rfl))
 show _=_
 simp only[eX,eD];omega
end eX
theorem aFi{x:bA}{k:Int}(h0:0<=k)(h1:k+eD x<=134217728):eX.pre x k=true:=by simp[eX.pre,h0,h1]
noncomputable def eL(x:bA)(k:Int):Int:=vG oF eD x k
namespace eL
def pre(x:bA)(k:Int):Bool:=decide (0<=k)&&decide (k+eD x<=134217728)
abbrev wf(x0:bA)(x1:Int):Prop:=hN [(.val zk1 .f),(.val (.int .i64) .f)] (x0,(x1,()))
noncomputable def aQ(x0:bA)(x1:Int):Option uK:=
 if(eC.pre x0.1 x1)=true then
 letB (eC x0.1 x1) fun v1=>
 if(decide (v1<(0:Int)))=true then
 some ((),((-1:Int),()))
 else
 if(dG.pre x0.2.1 v1)=true then
 letB (dG x0.2.1 v1) fun v2=>
 if(decide (v2<(0:Int)))=true then
 some ((),((-1:Int),()))
 else
 if(dH.pre x0.2.2.1 v2)=true then
 letB (dH x0.2.2.1 v2) fun v3=>
 if(decide (v3<(0:Int)))=true then
 some ((),((-1:Int),()))
 else
 if(bG.pre x0.2.2.2.2.1 v3)=true then
 letB (bG x0.2.2.2.2.1 v3) fun v4=>
 if(decide (v4<(0:Int)))=true then
 some ((),((-1:Int),()))
 else
 if(bN.pre x0.2.2.2.2.2.1 v4)=true then
 letB (bN x0.2.2.2.2.2.1 v4) fun v5=>
 if(decide (v5<(0:Int)))=true then
 some ((),((-1:Int),()))
 else
 some ((),(v5,()))
 else
 none
 else
 none
 else
 none
 else
 none
 else
 none
theorem eq(x0:bA)(x1:Int)(_:wf x0 x1)(hp:pre x0 x1=true):aQ x0 x1=some ((),(eL x0 x1,())):=by
 simp only[pre,Zb,Za] at hp
 simp only[eD] at hp
 have n0:=fV mX x0.1
 have n1:=fV kW x0.2.1
 have n2:=fV lA x0.2.2.1
 have n4:=fV fU x0.2.2.2.2.1
 have n5:=fV gA x0.2.2.2.2.2.1
 have q0:eC.pre x0.1 (x1)=true:=aER (by omega) (by omega)
 have q1:dG.pre x0.2.1 (x1+bK cL x0.1)=true:=aCz (by omega) (by omega)
 have q2:dH.pre x0.2.2.1 (x1+bK cL x0.1+bK bM x0.2.1)=true:=aCK (by omega) (by omega)
 have q4:bG.pre x0.2.2.2.2.1 (x1+bK cL x0.1+bK bM x0.2.1+bK cD x0.2.2.1)=true:=tL (by omega) (by omega)
 have q5:bN.pre x0.2.2.2.2.2.1 (x1+bK cL x0.1+bK bM x0.2.1+bK cD x0.2.2.1+bK bQ x0.2.2.2.2.1)=true:=yC (by omega) (by omega)
 unfold aQ eL
 simp only[letB,if_true,q0,q1,q2,q4,q5]
 by_cases c0:x0.1=oL rF cL x0.1 (x1)
 case neg=>rw[show eC x0.1 (x1)=-1 from aF1 c0,if_pos (by decide),mF (fun h=>c0 (congrArg (fun z:bA=>z.1) h))]
 rw[show eC x0.1 (x1)=x1+bK cL x0.1 from aEX c0,if_neg (by rw[Za];omega)]
 try simp only[if_true,q0,q1,q2,q4,q5]
 by_cases c1:x0.2.1=oL nA bM x0.2.1 (x1+bK cL x0.1)
 case neg=>rw[show dG x0.2.1 (x1+bK cL x0.1)=-1 from aCU c1,if_pos (by decide),mF (fun h=>c1 (congrArg (fun z:bA=>z.2.1) h))]
 rw[show dG x0.2.1 (x1+bK cL x0.1)=x1+bK cL x0.1+bK bM x0.2.1 from aCH c1,if_neg (by rw[Za];omega)]
 try simp only[if_true,q0,q1,q2,q4,q5]
 by_cases c2:x0.2.2.1=oL lY cD x0.2.2.1 (x1+bK cL x0.1+bK bM x0.2.1)
 case neg=>rw[show dH x0.2.2.1 (x1+bK cL x0.1+bK bM x0.2.1)=-1 from aCQ c2,if_pos (by decide),mF (fun h=>c2 (congrArg (fun z:bA=>z.2.2.1) h))]
 rw[show dH x0.2.2.1 (x1+bK cL x0.1+bK bM x0.2.1)=x1+bK cL x0.1+bK bM x0.2.1+bK cD x0.2.2.1 from aCO c2,if_neg (by rw[Za];omega)]
 try simp only[if_true,q0,q1,q2,q4,q5]
 by_cases c4:x0.2.2.2.2.1=oL oX bQ x0.2.2.2.2.1 (x1+bK cL x0.1+bK bM x0.2.1+bK cD x0.2.2.1)
 case neg=>rw[show bG x0.2.2.2.2.1 (x1+bK cL x0.1+bK bM x0.2.1+bK cD x0.2.2.1)=-1 from tH c4,if_pos (by decide),mF (fun h=>c4 (congrArg (fun z:bA=>z.2.2.2.2.1) h))]
 rw[show bG x0.2.2.2.2.1 (x1+bK cL x0.1+bK bM x0.2.1+bK cD x0.2.2.1)=x1+bK cL x0.1+bK bM x0.2.1+bK cD x0.2.2.1+bK bQ x0.2.2.2.2.1 from tK c4,if_neg (by rw[Za];omega)]
 try simp only[if_true,q0,q1,q2,q4,q5]
 by_cases c5:x0.2.2.2.2.2.1=oL mE cM x0.2.2.2.2.2.1 (x1+bK cL x0.1+bK bM x0.2.1+bK cD x0.2.2.1+bK bQ x0.2.2.2.2.1)
 case neg=>rw[show bN x0.2.2.2.2.2.1 (x1+bK cL x0.1+bK bM x0.2.1+bK cD x0.2.2.1+bK bQ x0.2.2.2.2.1)=-1 from aCf c5,if_pos (by decide),mF (fun h=>c5 (congrArg (fun z:bA=>z.2.2.2.2.2.1) h))]
 rw[show bN x0.2.2.2.2.2.1 (x1+bK cL x0.1+bK bM x0.2.1+bK cD x0.2.2.1+bK bQ x0.2.2.2.2.1)=x1+bK cL x0.1+bK bM x0.2.1+bK cD x0.2.2.1+bK bQ x0.2.2.2.2.1+bK cM x0.2.2.2.2.2.1 from aC9 c5,if_neg (by rw[Za];omega)]
 rw[oO (m:=oF) (g:=eD) (Prod.ext c0 (Prod.ext c1 (Prod.ext c2 (Prod.ext rfl (Prod.ext c4 (Prod.ext c5 rfl)))))),show x1+bK cL x0.1+bK bM x0.2.1+bK cD x0.2.2.1+bK bQ x0.2.2.2.2.1+bK cM x0.2.2.2.2.2.1=x1+eD x0 by simp only[eD];omega]
end eL
theorem aEO{x:bA}{k:Int}(h0:0<=k)(h1:k+eD x<=134217728):eL.pre x k=true:=by simp[eL.pre,h0,h1]
theorem aDY(x:bA)(k:Int):eL (oF x k) k=k+eD x:=aI8 aAg aDU x k
def fD(x:aW):Bool:=aA x.1 1 4&&(aA x.2.1 1 5&&(aA x.2.2.1 1 8&&aA x.2.2.2.1 0 60))
abbrev kM:=fD
abbrev kK:=fD
namespace kM
abbrev wf(x0:aW):Prop:=hN [(.val wW .f)] (x0,())
noncomputable def aQ(x0:aW):Option mO:=
 if(aA x0.1 (1:Int) (4:Int))=true then
 if(aA x0.2.1 (1:Int) (5:Int))=true then
 if(aA x0.2.2.1 (1:Int) (8:Int))=true then
 some ((),((aA x0.2.2.2.1 (0:Int) (60:Int)),()))
 else
 some ((),(false,()))
 else
 some ((),(false,()))
 else
 some ((),(false,()))
theorem eq(x0:aW)(_:wf x0):aQ x0=some ((),(kM x0,())):=by
 unfold aQ kM fD
 cases aA x0.1 1 4<;>cases aA x0.2.1 1 5<;>cases aA x0.2.2.1 1 8<;>simp
end kM
namespace kK
abbrev wf(x0:aW):Prop:=hN [(.val wW .f)] (x0,())
noncomputable def aQ(x0:aW):Option mO:=
 if(aA x0.1 (1:Int) (4:Int))=true then
 if(aA x0.2.1 (1:Int) (5:Int))=true then
 if(aA x0.2.2.1 (1:Int) (8:Int))=true then
 some ((),((aA x0.2.2.2.1 (0:Int) (60:Int)),()))
 else
 some ((),(false,()))
 else
 some ((),(false,()))
 else
 some ((),(false,()))
theorem eq(x0:aW)(_:wf x0):aQ x0=some ((),(kK x0,())):=by
 unfold aQ kK fD
 cases aA x0.1 1 4<;>cases aA x0.2.1 1 5<;>cases aA x0.2.2.1 1 8<;>simp
end kK
def kI(x:aW):aW:=x
namespace kI
abbrev wf(x0:aW):Prop:=hN [(.val wW .f)] (x0,())
noncomputable def aQ(x0:aW):Option (Unit×(aW×Unit)):=
 some ((),(x0,()))
theorem eq(x0:aW)(_:wf x0):aQ x0=some ((),(kI x0,())):=rfl
end kI
def pT(n:Int):aD:=if aA n 1 4=true then(0,([],([],(List.replicate n.toNat 0,())))) else(0,([],([],([],()))))
abbrev iS:=pT
abbrev iR:=pT
namespace iS
def pre(_:Int):Bool:=true
abbrev wf(x0:Int):Prop:=hN [(.val (.int .i64) .f)] (x0,())
noncomputable def aQ(x0:Int):Option aDo:=
 letB (aA x0 (1:Int) (4:Int)) fun v1=>
 if(!v1)=true then
 some ((),(oB,()))
 else
 if(decide ((0:Int)<=x0))=true then
 if(decide (x0<=x0))=true then
 if(decide (x0<=(4294967296:Int)))=true then
 some ((),(((0:Int),(([]:List Int),(([]:List Int),((List.replicate (Int.toNat x0) (0:Int)),())))),()))
 else
 none
 else
 none
 else
 none
theorem eq(x0:Int)(_:wf x0)(_:pre x0=true):aQ x0=some ((),(iS x0,())):=by
 unfold aQ iS pT
 simp only[letB]
 by_cases h:aA x0 1 4=true
 . have:=qI h
   rw[if_neg (by simp[h]),if_pos (by simp only[Za];omega),if_pos (by simp),if_pos (by simp only[Za];omega),if_pos h]
 . rw[if_pos (by simp[h]),if_neg h]
end iS
namespace iR
def pre(_:Int):Bool:=true
abbrev wf(x0:Int):Prop:=hN [(.val (.int .i64) .f)] (x0,())
noncomputable def aQ(x0:Int):Option aDo:=
 letB (aA x0 (1:Int) (4:Int)) fun v1=>
 if(!v1)=true then
 some ((),(oB,()))
 else
 if(decide ((0:Int)<=x0))=true then
 if(decide (x0<=x0))=true then
 if(decide (x0<=(4294967296:Int)))=true then
 some ((),(((0:Int),(([]:List Int),(([]:List Int),((List.replicate (Int.toNat x0) (0:Int)),())))),()))
 else
 none
 else
 none
 else
 none
theorem eq(x0:Int)(_:wf x0)(_:pre x0=true):aQ x0=some ((),(iR x0,())):=by
 unfold aQ iR pT
 simp only[letB]
 by_cases h:aA x0 1 4=true
 . have:=qI h
   rw[if_neg (by simp[h]),if_pos (by simp only[Za];omega),if_pos (by simp),if_pos (by simp only[Za];omega),if_pos h]
 . rw[if_pos (by simp[h]),if_neg h]
end iR
def aL0:bA:=([],([],([],(0,([],([],()))))))
def aHW(n:Int):bA:=(List.replicate n.toNat (0,(0,([],()))),([],(List.replicate 2 (pT n),(0,(List.replicate 4 0,(List.replicate 4 (0,(0,([],([],())))),()))))))
def gW(x:aW):bA:=if fD x=true then aHW x.1 else aL0
abbrev iE:=gW
abbrev iC:=gW
abbrev KnT:=Int×zt8
abbrev KnS:=Int×(aW×KnT)
def zD:KnS->Bool:=fun s=>decide (0<=s.1)&&decide (s.2.2.2.2.2.2.2.2.2.2.2.2.2.1.length<=s.1.toNat)
def aIM:KnS->KnT:=fun(i,x,x3,x4,x5,x6,x7,x8,x9,x10,x11,x12,x13,x14,x15,x16,_)=>
 (x3,(x4,(x5,(x6,(x7,(x8,(x9,(x10,(x11,(x12,(x13,(x14++List.replicate (2-i).toNat (pT x.1),(x15,(x16,()))))))))))))))
def aK0:KnS->Nat:=fun s=>(2-s.1).toNat
theorem aL6{x1:Int}{x2:aW}{x3:Int}{x4:Unit}{x5:List bS}{x6:List aC}{x7:List aD}{x8:List Int}{x9:List aF}{x10:Int}{x11:Unit}{x12:List bS}{x13:List aC}{x14:List aD}{x15:List Int}{x16:List aF}
 (hp:zD (x1,(x2,(x3,(x4,(x5,(x6,(x7,(x8,(x9,(x10,(x11,(x12,(x13,(x14,(x15,(x16,()))))))))))))))))=true) (hlt:x1<2):
 Rounds zD aK0 aIM (x1,(x2,(x3,(x4,(x5,(x6,(x7,(x8,(x9,(x10,(x11,(x12,(x13,(x14,(x15,(x16,()))))))))))))))))
  (some (.inl ((wrap .i64 (x1+1)),(x2,(x3,(x4,(x5,(x6,(x7,(x8,(x9,(x10,(x11,(x12,(x13,((List.append x14 [pT x2.1]),(x15,(x16,())))))))))))))))))):=by
 simp only[zD,Zb,Za] at hp
 rw[lF (n:=x1+1) (by omega) (by omega)]
 simp only[Rounds]
 refine⟨?_,by simp only[aK0];omega,?_⟩
 . simp only[zD,Zb,Za,List.append_eq,Zf,Zg,Zh];omega
 . simp only[aIM,List.append_eq]
   rw[show(2-x1).toNat=(2-(x1+1)).toNat+1 by omega,List.replicate_succ,Zk];rfl
theorem aJT{x1:Int}{x2:aW}{x3:Int}{x4:Unit}{x5:List bS}{x6:List aC}{x7:List aD}{x8:List Int}{x9:List aF}{x10:Int}{x11:Unit}{x12:List bS}{x13:List aC}{x14:List aD}{x15:List Int}{x16:List aF}(hlt:¬x1<2):
 Rounds zD aK0 aIM (x1,(x2,(x3,(x4,(x5,(x6,(x7,(x8,(x9,(x10,(x11,(x12,(x13,(x14,(x15,(x16,()))))))))))))))))
  (some (.inr (x3,(x4,(x5,(x6,(x7,(x8,(x9,(x10,(x11,(x12,(x13,(x14,(x15,(x16,())))))))))))))))):=by
 simp only[Rounds,aIM]
 rw[show(2-x1).toNat=0 by omega,List.replicate_zero,List.append_nil]
namespace iE
def pre(_:aW):Bool:=true
def pre5:=zD
def fn5:=aIM
def mu5:=aK0
noncomputable def rA(x1:Int)(x2:aW)(x3:Int)(x4:Unit)(x5:(List bS))(x6:(List aC))(x7:(List aD))(x8:(List Int))(x9:(List aF))(x10:Int)(x11:Unit)(x12:(List bS))(x13:(List aC))(x14:(List aD))(x15:(List Int))(x16:(List aF)):Option ((Int×(aW×(Int×zt8)))⊕(Int×zt8)):=
 if(decide (x1<(2:Int)))=true then
 if(iS.pre x2.1)=true then
 letB (pT x2.1) fun v1=>
 if(decide (length x14+length (v1::([]:List aD))<=hY))=true then
 some (.inl ((wrap .i64 (x1+(1:Int))),(x2,(x3,(x4,(x5,(x6,(x7,(x8,(x9,(x10,(x11,(x12,(x13,((List.append x14 (v1::([]:List aD))),(x15,(x16,())))))))))))))))))
 else
 none
 else
 none
 else
 some (.inr (x3,(x4,(x5,(x6,(x7,(x8,(x9,(x10,(x11,(x12,(x13,(x14,(x15,(x16,())))))))))))))))
abbrev wf(x0:aW):Prop:=hN [(.val wW .f)] (x0,())
noncomputable def aQ(x0:aW):Option (Unit×(bA×Unit)):=
 letB (fD x0) fun v1=>
 if(!v1)=true then
 some ((),((([]:List bS),(([]:List aC),(([]:List aD),((0:Int),(([]:List Int),(([]:List aF),())))))),()))
 else
 if(decide ((0:Int)<=x0.1))=true then
 if(decide (x0.1<=x0.1))=true then
 if(decide (x0.1<=(4294967296:Int)))=true then
 if(decide ((0:Int)<=(4:Int)))=true then
 if(decide ((4:Int)<=(4:Int)))=true then
 if(decide ((4:Int)<=(4294967296:Int)))=true then
 if(decide ((0:Int)<=(4:Int)))=true then
 if(decide ((4:Int)<=(4:Int)))=true then
 if(decide ((4:Int)<=(4294967296:Int)))=true then
 if(iE.pre5 ((0:Int),(x0,((0:Int),((),(([]:List bS),(([]:List aC),(([]:List aD),(([]:List Int),(([]:List aF),((0:Int),((),((List.replicate (Int.toNat x0.1) pF),(([]:List aC),(([]:List aD),((List.replicate (Int.toNat (4:Int)) (0:Int)),((List.replicate (Int.toNat (4:Int)) ((0:Int),pQ)),())))))))))))))))))=true then
 letB (iE.fn5 ((0:Int),(x0,((0:Int),((),(([]:List bS),(([]:List aC),(([]:List aD),(([]:List Int),(([]:List aF),((0:Int),((),((List.replicate (Int.toNat x0.1) pF),(([]:List aC),(([]:List aD),((List.replicate (Int.toNat (4:Int)) (0:Int)),((List.replicate (Int.toNat (4:Int)) ((0:Int),pQ)),()))))))))))))))))) fun v2=>
 some ((),((v2.2.2.2.2.2.2.2.2.2.1,(v2.2.2.2.2.2.2.2.2.2.2.1,(v2.2.2.2.2.2.2.2.2.2.2.2.1,(v2.2.2.2.2.2.2.2.1,(v2.2.2.2.2.2.2.2.2.2.2.2.2.1,(v2.2.2.2.2.2.2.2.2.2.2.2.2.2.1,v2.2.2.2.2.2.2.2.2.1)))))),()))
 else
 none
 else
 none
 else
 none
 else
 none
 else
 none
 else
 none
 else
 none
 else
 none
 else
 none
 else
 none
theorem ok5(x1:Int)(x2:aW)(x3:Int)(x4:Unit)(x5:List bS)(x6:List aC)(x7:List aD)(x8:List Int)(x9:List aF)(x10:Int)(x11:Unit)(x12:List bS)(x13:List aC)(x14:List aD)(x15:List Int)(x16:List aF)
 (hp:pre5 (x1,(x2,(x3,(x4,(x5,(x6,(x7,(x8,(x9,(x10,(x11,(x12,(x13,(x14,(x15,(x16,()))))))))))))))))=true):
 Rounds pre5 mu5 fn5 (x1,(x2,(x3,(x4,(x5,(x6,(x7,(x8,(x9,(x10,(x11,(x12,(x13,(x14,(x15,(x16,())))))))))))))))) (rA x1 x2 x3 x4 x5 x6 x7 x8 x9 x10 x11 x12 x13 x14 x15 x16):=by
 unfold rA
 simp only[letB]
 by_cases hlt:x1<2
 . have hp2:=hp
   simp only[pre5,zD,Zb,Za] at hp2
   rw[if_pos (by simp[hlt]),if_pos (show iS.pre _=true from rfl),if_pos (by simp only[Za,hY,Zg,Zh];omega)]
   exact aL6 hp hlt
 . rw[if_neg (by simp[hlt])]
   exact aJT hlt
theorem eq(x0:aW)(_:wf x0)(_:pre x0=true):aQ x0=some ((),(iE x0,())):=by
 unfold aQ iE gW
 simp only[letB]
 by_cases h:fD x0=true
 case neg=>rw[if_pos (by simp[h]),if_neg h];rfl
 have hs:=h
 simp only[fD,Zb] at hs
 have:=qI hs.1
 rw[if_neg (by simp[h]),if_pos (by simp only[Za];omega),if_pos (by simp),if_pos (by simp only[Za];omega),if_pos (by decide),if_pos (by decide),if_pos (by decide),if_pos (by decide),if_pos (by decide),if_pos (by decide),
  if_pos (show pre5 _=true by simp[pre5,zD]),if_pos h]
 rfl
end iE
namespace iC
def pre(_:aW):Bool:=true
def pre5:=zD
def fn5:=aIM
def mu5:=aK0
noncomputable def rA(x1:Int)(x2:aW)(x3:Int)(x4:Unit)(x5:(List bS))(x6:(List aC))(x7:(List aD))(x8:(List Int))(x9:(List aF))(x10:Int)(x11:Unit)(x12:(List bS))(x13:(List aC))(x14:(List aD))(x15:(List Int))(x16:(List aF)):Option ((Int×(aW×(Int×zt8)))⊕(Int×zt8)):=
 if(decide (x1<(2:Int)))=true then
 if(iR.pre x2.1)=true then
 letB (pT x2.1) fun v1=>
 if(decide (length x14+length (v1::([]:List aD))<=hY))=true then
 some (.inl ((wrap .i64 (x1+(1:Int))),(x2,(x3,(x4,(x5,(x6,(x7,(x8,(x9,(x10,(x11,(x12,(x13,((List.append x14 (v1::([]:List aD))),(x15,(x16,())))))))))))))))))
 else
 none
 else
 none
 else
 some (.inr (x3,(x4,(x5,(x6,(x7,(x8,(x9,(x10,(x11,(x12,(x13,(x14,(x15,(x16,())))))))))))))))
abbrev wf(x0:aW):Prop:=hN [(.val wW .f)] (x0,())
noncomputable def aQ(x0:aW):Option (Unit×(bA×Unit)):=
 letB (fD x0) fun v1=>
 if(!v1)=true then
 some ((),((([]:List bS),(([]:List aC),(([]:List aD),((0:Int),(([]:List Int),(([]:List aF),())))))),()))
 else
 if(decide ((0:Int)<=x0.1))=true then
 if(decide (x0.1<=x0.1))=true then
 if(decide (x0.1<=(4294967296:Int)))=true then
 if(decide ((0:Int)<=(4:Int)))=true then
 if(decide ((4:Int)<=(4:Int)))=true then
 if(decide ((4:Int)<=(4294967296:Int)))=true then
 if(decide ((0:Int)<=(4:Int)))=true then
 if(decide ((4:Int)<=(4:Int)))=true then
 if(decide ((4:Int)<=(4294967296:Int)))=true then
 if(iC.pre5 ((0:Int),(x0,((0:Int),((),(([]:List bS),(([]:List aC),(([]:List aD),(([]:List Int),(([]:List aF),((0:Int),((),((List.replicate (Int.toNat x0.1) pF),(([]:List aC),(([]:List aD),((List.replicate (Int.toNat (4:Int)) (0:Int)),((List.replicate (Int.toNat (4:Int)) ((0:Int),pQ)),())))))))))))))))))=true then
 letB (iC.fn5 ((0:Int),(x0,((0:Int),((),(([]:List bS),(([]:List aC),(([]:List aD),(([]:List Int),(([]:List aF),((0:Int),((),((List.replicate (Int.toNat x0.1) pF),(([]:List aC),(([]:List aD),((List.replicate (Int.toNat (4:Int)) (0:Int)),((List.replicate (Int.toNat (4:Int)) ((0:Int),pQ)),()))))))))))))))))) fun v2=>
 some ((),((v2.2.2.2.2.2.2.2.2.2.1,(v2.2.2.2.2.2.2.2.2.2.2.1,(v2.2.2.2.2.2.2.2.2.2.2.2.1,(v2.2.2.2.2.2.2.2.1,(v2.2.2.2.2.2.2.2.2.2.2.2.2.1,(v2.2.2.2.2.2.2.2.2.2.2.2.2.2.1,v2.2.2.2.2.2.2.2.2.1)))))),()))
 else
 none
 else
 none
 else
 none
 else
 none
 else
 none
 else
 none
 else
 none
 else
 none
 else
 none
 else
 none
theorem ok5(x1:Int)(x2:aW)(x3:Int)(x4:Unit)(x5:List bS)(x6:List aC)(x7:List aD)(x8:List Int)(x9:List aF)(x10:Int)(x11:Unit)(x12:List bS)(x13:List aC)(x14:List aD)(x15:List Int)(x16:List aF)
 (hp:pre5 (x1,(x2,(x3,(x4,(x5,(x6,(x7,(x8,(x9,(x10,(x11,(x12,(x13,(x14,(x15,(x16,()))))))))))))))))=true):
 Rounds pre5 mu5 fn5 (x1,(x2,(x3,(x4,(x5,(x6,(x7,(x8,(x9,(x10,(x11,(x12,(x13,(x14,(x15,(x16,())))))))))))))))) (rA x1 x2 x3 x4 x5 x6 x7 x8 x9 x10 x11 x12 x13 x14 x15 x16):=by
 unfold rA
 simp only[letB]
 by_cases hlt:x1<2
 . have hp2:=hp
   simp only[pre5,zD,Zb,Za] at hp2
   rw[if_pos (by simp[hlt]),if_pos (show iR.pre _=true from rfl),if_pos (by simp only[Za,hY,Zg,Zh];omega)]
   exact aL6 hp hlt
 . rw[if_neg (by simp[hlt])]
   exact aJT hlt
theorem eq(x0:aW)(_:wf x0)(_:pre x0=true):aQ x0=some ((),(iC x0,())):=by
 unfold aQ iC gW
 simp only[letB]
 by_cases h:fD x0=true
 case neg=>rw[if_pos (by simp[h]),if_neg h];rfl
 have hs:=h
 simp only[fD,Zb] at hs
 have:=qI hs.1
 rw[if_neg (by simp[h]),if_pos (by simp only[Za];omega),if_pos (by simp),if_pos (by simp only[Za];omega),if_pos (by decide),if_pos (by decide),if_pos (by decide),if_pos (by decide),if_pos (by decide),if_pos (by decide),
  if_pos (show pre5 _=true by simp[pre5,zD]),if_pos h]
 rfl
end iC
section
variable {S O:Type} {pre:S->Bool} {mu:S->Nat} {fn:S->O} {s:S}
theorem eQ{c:Prop}[Decidable c]{A B:Option (S⊕O)}(h:c)(r:Rounds pre mu fn s A):Rounds pre mu fn s (if c then A else B):=by rw[if_pos h];exact r
theorem jJ{c:Prop}[Decidable c]{A B:Option (S⊕O)}(h:¬c)(r:Rounds pre mu fn s B):Rounds pre mu fn s (if c then A else B):=by rw[if_neg h];exact r
theorem aEc{α:Type}{a:α}{f:α->Option (S⊕O)}(r:Rounds pre mu fn s (f a)):Rounds pre mu fn s (letB a f):=r
end
section
variable {α β:Type}
theorem bV{c:Prop}[Decidable c]{A B:Option α}{v:Option α}(h:c)(r:A=v):(if c then A else B)=v:=by rw[if_pos h];exact r
theorem dM{c:Prop}[Decidable c]{A B:Option α}{v:Option α}(h:¬c)(r:B=v):(if c then A else B)=v:=by rw[if_neg h];exact r
theorem eN{a:β}{f:β->Option α}{v:Option α}(r:f a=v):letB a f=v:=r
def rT(q:α->Bool)(xs:List α)(n i:Int)(out:List α):Bool:=cH xs&&(xs.all q&&(decide (n=(xs.length:Int))&&(decide (0<=i)&&(decide (i<=(xs.length:Int))&&decide ((out.length:Int)<=i)))))
theorem zX{q:α->Bool}{xs:List α}{n i:Int}{out:List α}:rT q xs n i out=true↔xs.length<=16777216/\xs.all q=true/\n=(xs.length:Int)/\0<=i/\i<=(xs.length:Int)/\(out.length:Int)<=i:=by
 simp only[rT,Zb,Za,bW]
theorem aA1{q:α->Bool}{xs:List α}{n i:Int}{out:List α}(d:α)(hp:rT q xs n i out=true)(hlt:i<n):
 q (xs.getD i.toNat d)=true/\0<=i/\i<(xs.length:Int)/\out.length+length (xs.getD i.toNat d::([]:List α))<=hY/\wrap .i64 (i+1)=i+1/\
  rT q xs n (i+1) (out++[xs.getD i.toNat d])=true/\(out++[xs.getD i.toNat d])++xs.drop (i+1).toNat=out++xs.drop i.toNat/\xs.length-(i+1).toNat<xs.length-i.toNat:=by
 obtain⟨h1,h2,h3,h4,h5,h6⟩:=zX.1 hp
 have hn:i.toNat<xs.length:=by omega
 have e1:=Zn hn
 rw[cX hn]
 refine⟨Zu.1 h2 _ (List.getElem_mem _),h4,by omega,by simp only[Zg,Zh,hY];omega,lF (by omega) (by omega),?_,?_,by omega⟩
 . rw[zX]
   exact⟨h1,h2,h3,by omega,by omega,by simp only[Zf,Zg,Zh];omega⟩
 . rw[show(i+1).toNat=i.toNat+1 by omega,e1,Zk];rfl
theorem aBG{q:α->Bool}{xs:List α}{n i:Int}{out:List α}(hp:rT q xs n i out=true)(hlt:¬i<n):out++xs.drop i.toNat=out:=by
 obtain⟨h1,h2,h3,h4,h5,h6⟩:=zX.1 hp
 rw[Zt (by omega),List.append_nil]
theorem wS{q:α->Bool}{xs:List α}(h:cH xs=true)(ha:xs.all q=true):rT q xs ((length xs:Nat):Int) 0 []=true:=by
 rw[zX];rw[bW] at h
 exact⟨h,ha,rfl,by omega,by omega,by simp⟩
theorem uD{xs:List α}(h:cH xs=true):([]:List β).length+xs.length<=hY:=by
 rw[bW] at h;simp only[Zh,hY];omega
end
def bC(x:bS):bS:=x
namespace bC
def pre(x:bS):Bool:=cH x.2.2.1
abbrev wf(x0:bS):Prop:=hN [(.val sZ .f)] (x0,())
noncomputable def aQ(x0:bS):Option (Unit×(bS×Unit)):=
 if(decide (length ([]:List aP)+length x0.2.2.1<=hY))=true then
 some ((),((x0.1,(x0.2.1,((List.append ([]:List aP) x0.2.2.1),x0.2.2.2))),()))
 else
 none
theorem eq(x0:bS)(_:wf x0)(hp:pre x0=true):aQ x0=some ((),(bC x0,())):=by
 unfold aQ
 have hp:cH x0.2.2.1=true:=hp
 refine bV (Zd (uD hp)) ?_
 rfl
end bC
def bP(x:bS):bS:=x
namespace bP
def pre(x:bS):Bool:=cH x.2.2.1
abbrev wf(x0:bS):Prop:=hN [(.val sZ .f)] (x0,())
noncomputable def aQ(x0:bS):Option (Unit×(bS×Unit)):=
 if(decide (length ([]:List aP)+length x0.2.2.1<=hY))=true then
 some ((),((x0.1,(x0.2.1,((List.append ([]:List aP) x0.2.2.1),()))),()))
 else
 none
theorem eq(x0:bS)(_:wf x0)(hp:pre x0=true):aQ x0=some ((),(bP x0,())):=by
 unfold aQ
 have hp:cH x0.2.2.1=true:=hp
 refine bV (Zd (uD hp)) ?_
 rfl
end bP
def aS(x:aC):aC:=x
namespace aS
def pre(x:aC):Bool:=cH x.2.2.2.2.1
abbrev wf(x0:aC):Prop:=hN [(.val vJ .f)] (x0,())
noncomputable def aQ(x0:aC):Option (Unit×(aC×Unit)):=
 if(decide (length ([]:List aY)+length x0.2.2.2.2.1<=hY))=true then
 some ((),((x0.1,(x0.2.1,(x0.2.2.1,(x0.2.2.2.1,((List.append ([]:List aY) x0.2.2.2.2.1),x0.2.2.2.2.2))))),()))
 else
 none
theorem eq(x0:aC)(_:wf x0)(hp:pre x0=true):aQ x0=some ((),(aS x0,())):=by
 unfold aQ
 have hp:cH x0.2.2.2.2.1=true:=hp
 refine bV (Zd (uD hp)) ?_
 rfl
end aS
def aK(x:aC):aC:=x
namespace aK
def pre(x:aC):Bool:=cH x.2.2.2.2.1
abbrev wf(x0:aC):Prop:=hN [(.val vJ .f)] (x0,())
noncomputable def aQ(x0:aC):Option (Unit×(aC×Unit)):=
 if(decide (length ([]:List aY)+length x0.2.2.2.2.1<=hY))=true then
 some ((),((x0.1,(x0.2.1,(x0.2.2.1,(x0.2.2.2.1,((List.append ([]:List aY) x0.2.2.2.2.1),x0.2.2.2.2.2))))),()))
 else
 none
theorem eq(x0:aC)(_:wf x0)(hp:pre x0=true):aQ x0=some ((),(aK x0,())):=by
 unfold aQ
 have hp:cH x0.2.2.2.2.1=true:=hp
 refine bV (Zd (uD hp)) ?_
 rfl
end aK
def dX(x:List Int):List Int:=x
namespace dX
def pre(x:List Int):Bool:=cH x
abbrev wf(x0:(List Int)):Prop:=hN [(.val (.sl 0 (.int .i64)) .f)] (x0,())
noncomputable def aQ(x0:(List Int)):Option (Unit×((List Int)×Unit)):=
 if(decide (length ([]:List Int)+length x0<=hY))=true then
 some ((),((List.append ([]:List Int) x0),()))
 else
 none
theorem eq(x0:List Int)(_:wf x0)(hp:pre x0=true):aQ x0=some ((),(dX x0,())):=by
 unfold aQ
 refine bV (Zd (uD hp)) ?_
 rfl
end dX
def gU(x:aD):Bool:=cH x.2.1&&(cH x.2.2.1&&cH x.2.2.2.1)
def aT(x:aD):aD:=x
namespace aT
def pre(x:aD):Bool:=gU x
abbrev wf(x0:aD):Prop:=hN [(.val qT .f)] (x0,())
noncomputable def aQ(x0:aD):Option aDo:=
 if(dX.pre x0.2.1)=true then
 if(dX.pre x0.2.2.1)=true then
 if(dX.pre x0.2.2.2.1)=true then
 letB (dX x0.2.1) fun v1=>
 letB (dX x0.2.2.1) fun v2=>
 letB (dX x0.2.2.2.1) fun v3=>
 some ((),((x0.1,(v1,(v2,(v3,x0.2.2.2.2)))),()))
 else
 none
 else
 none
 else
 none
theorem eq(x0:aD)(_:wf x0)(hp:pre x0=true):aQ x0=some ((),(aT x0,())):=by
 simp only[pre,gU,Zb] at hp
 unfold aQ
 refine bV hp.1 (bV hp.2.1 (bV hp.2.2 ?_))
 rfl
end aT
def aU(x:aD):aD:=x
namespace aU
def pre(x:aD):Bool:=gU x
abbrev wf(x0:aD):Prop:=hN [(.val qT .f)] (x0,())
noncomputable def aQ(x0:aD):Option aDo:=
 if(decide (length ([]:List Int)+length x0.2.1<=hY))=true then
 if(decide (length ([]:List Int)+length x0.2.2.1<=hY))=true then
 if(decide (length ([]:List Int)+length x0.2.2.2.1<=hY))=true then
 some ((),((x0.1,((List.append ([]:List Int) x0.2.1),((List.append ([]:List Int) x0.2.2.1),((List.append ([]:List Int) x0.2.2.2.1),())))),()))
 else
 none
 else
 none
 else
 none
theorem eq(x0:aD)(_:wf x0)(hp:pre x0=true):aQ x0=some ((),(aU x0,())):=by
 simp only[pre,gU,Zb] at hp
 unfold aQ
 refine bV (Zd (uD hp.1)) (bV (Zd (uD hp.2.1)) (bV (Zd (uD hp.2.2)) ?_))
 rfl
end aU
def cV(x:List aC):List aC:=x
namespace cV
abbrev S3:Type:=((List aC)×(Int×(Int×yJ)))
abbrev O3:Type:=yJ
def pre(x:List aC):Bool:=cH x&&x.all aS.pre
def pre3:S3->Bool:=fun(x1,x2,x3,x4,_)=>rT aS.pre x1 x2 x3 x4
def fn3:S3->O3:=fun(x1,_,x3,x4,_)=>(x4++x1.drop x3.toNat,())
def mu3:S3->Nat:=fun(x1,_,x3,_,_)=>x1.length-x3.toNat
noncomputable def aDk(x1:(List aC))(x2:Int)(x3:Int)(x4:(List aC)):Option (((List aC)×(Int×(Int×yJ)))⊕yJ):=
 if(decide (x3<x2))=true then
 if(decide ((0:Int)<=x3))=true then
 if(decide (x3<((length x1:Nat):Int)))=true then
 if(aS.pre (List.getD x1 (Int.toNat x3) jY))=true then
 letB (aS (List.getD x1 (Int.toNat x3) jY)) fun v1=>
 if(decide (length x4+length (v1::([]:List aC))<=hY))=true then
 some (.inl (x1,(x2,((wrap .i64 (x3+(1:Int))),((List.append x4 (v1::([]:List aC))),())))))
 else
 none
 else
 none
 else
 none
 else
 none
 else
 some (.inr (x4,()))
abbrev wf(x0:(List aC)):Prop:=hN [(.val (.sl 0 vJ) .f)] (x0,())
noncomputable def aQ(x0:(List aC)):Option (Unit×yJ):=
 if(cV.pre3 (x0,(((length x0:Nat):Int),((0:Int),(([]:List aC),())))))=true then
 letB (cV.fn3 (x0,(((length x0:Nat):Int),((0:Int),(([]:List aC),()))))) fun v1=>
 some ((),v1)
 else
 none
theorem ok3(x1 x2 x3 x4)(hp:pre3 (x1,(x2,(x3,(x4,()))))=true):Rounds pre3 mu3 fn3 (x1,(x2,(x3,(x4,())))) (aDk x1 x2 x3 x4):=by
 have hp:rT aS.pre x1 x2 x3 x4=true:=hp
 unfold aDk
 by_cases hlt:x3<x2
 . obtain⟨hq,h0,h1,h2,h3,h4,h5,h6⟩:=aA1 jY hp hlt
   rw[h3]
   refine eQ (Zd hlt) ?_
   refine eQ (Zd h0) ?_
   refine eQ (Zd h1) ?_
   refine eQ hq ?_
   refine aEc ?_
   refine eQ (Zd h2) ?_
   exact⟨h4,h6,congrArg (fun z:List aC=>((z,()):O3)) h5⟩
 . refine jJ (by rw[Za];exact hlt) ?_
   show _=_
   exact congrArg (fun z:List aC=>((z,()):O3)) (aBG hp hlt).symm
theorem eq(x0:List aC)(_:wf x0)(hp:pre x0=true):aQ x0=some ((),(cV x0,())):=by
 simp only[pre,Zb] at hp
 unfold aQ
 exact bV (show pre3 _=true from wS hp.1 hp.2) rfl
end cV
def eB(x:bA):bA:=x
namespace eB
abbrev S4:Type:=((List aD)×((List bS)×(Int×(Int×aGq))))
abbrev O4:Type:=((List aD)×aGq)
abbrev S9:Type:=((List aD)×(Int×(Int×aGq)))
abbrev O9:Type:=aGq
def pre(x:bA):Bool:=cH x.1&&(x.1.all bC.pre&&(cH x.2.1&&(x.2.1.all aS.pre&&(cH x.2.2.1&&(x.2.2.1.all aT.pre&&(cH x.2.2.2.2.1&&cH x.2.2.2.2.2.1))))))
def pre4:S4->Bool:=fun(_,x2,x3,x4,_,_,x7,_,_,_,_,_,_,_,_,_)=>rT bC.pre x2 x3 x4 x7
def fn4:S4->O4:=fun(x1,x2,_,x4,x5,x6,x7,x8,x9,x10,x11,x12,x13,x14,x15,_)=>(x1,(x5,(x6,(x7++x2.drop x4.toNat,(x8,(x9,(x10,(x11,(x12,(x13,(x14,(x15,()))))))))))))
def lN:S4->Nat:=fun(_,x2,_,x4,_,_,_,_,_,_,_,_,_,_,_,_)=>x2.length-x4.toNat
def pre9:S9->Bool:=fun(x1,x2,x3,_,_,_,x7,_,_,_,_,_,_,_,_)=>rT aT.pre x1 x2 x3 x7
def fn9:S9->O9:=fun(x1,_,x3,x4,x5,x6,x7,x8,x9,x10,x11,x12,x13,x14,_)=>(x4,(x5,(x6,(x7++x1.drop x3.toNat,(x8,(x9,(x10,(x11,(x12,(x13,(x14,())))))))))))
def mu9:S9->Nat:=fun(x1,_,x3,_,_,_,_,_,_,_,_,_,_,_,_)=>x1.length-x3.toNat
noncomputable def eA(x1:(List aD))(x2:(List bS))(x3:Int)(x4:Int)(x5:(List aC))(x6:(Int×((List Int)×((List aF)×Unit))))(x7:(List bS))(x8:(List aD))(x9:Int)(x10:Unit)(x11:(List bS))(x12:(List aC))(x13:(List aD))(x14:(List Int))(x15:(List aF)):Option (((List aD)×((List bS)×(Int×(Int×aGq))))⊕((List aD)×aGq)):=
 if(decide (x4<x3))=true then
 if(decide ((0:Int)<=x4))=true then
 if(decide (x4<((length x2:Nat):Int)))=true then
 if(bC.pre (List.getD x2 (Int.toNat x4) pF))=true then
 letB (bC (List.getD x2 (Int.toNat x4) pF)) fun v1=>
 if(decide (length x7+length (v1::([]:List bS))<=hY))=true then
 some (.inl (x1,(x2,(x3,((wrap .i64 (x4+(1:Int))),(x5,(x6,((List.append x7 (v1::([]:List bS))),(x8,(x9,(x10,(x11,(x12,(x13,(x14,(x15,()))))))))))))))))
 else
 none
 else
 none
 else
 none
 else
 none
 else
 some (.inr (x1,(x5,(x6,(x7,(x8,(x9,(x10,(x11,(x12,(x13,(x14,(x15,())))))))))))))
noncomputable def aHA(x1:(List aD))(x2:Int)(x3:Int)(x4:(List aC))(x5:(Int×((List Int)×((List aF)×Unit))))(x6:(List bS))(x7:(List aD))(x8:Int)(x9:Unit)(x10:(List bS))(x11:(List aC))(x12:(List aD))(x13:(List Int))(x14:(List aF)):Option (((List aD)×(Int×(Int×aGq)))⊕aGq):=
 if(decide (x3<x2))=true then
 if(decide ((0:Int)<=x3))=true then
 if(decide (x3<((length x1:Nat):Int)))=true then
 if(aT.pre (List.getD x1 (Int.toNat x3) oB))=true then
 letB (aT (List.getD x1 (Int.toNat x3) oB)) fun v1=>
 if(decide (length x7+length (v1::([]:List aD))<=hY))=true then
 some (.inl (x1,(x2,((wrap .i64 (x3+(1:Int))),(x4,(x5,(x6,((List.append x7 (v1::([]:List aD))),(x8,(x9,(x10,(x11,(x12,(x13,(x14,())))))))))))))))
 else
 none
 else
 none
 else
 none
 else
 none
 else
 some (.inr (x4,(x5,(x6,(x7,(x8,(x9,(x10,(x11,(x12,(x13,(x14,()))))))))))))
abbrev wf(x0:bA):Prop:=hN [(.val zk1 .f)] (x0,())
noncomputable def aQ(x0:bA):Option (Unit×(bA×Unit)):=
 if(eB.pre4 (x0.2.2.1,(x0.1,(((length x0.1:Nat):Int),((0:Int),(x0.2.1,(x0.2.2.2,(([]:List bS),(([]:List aD),((0:Int),((),(([]:List bS),(([]:List aC),(([]:List aD),(([]:List Int),(([]:List aF),()))))))))))))))))=true then
 letB (eB.fn4 (x0.2.2.1,(x0.1,(((length x0.1:Nat):Int),((0:Int),(x0.2.1,(x0.2.2.2,(([]:List bS),(([]:List aD),((0:Int),((),(([]:List bS),(([]:List aC),(([]:List aD),(([]:List Int),(([]:List aF),())))))))))))))))) fun v1=>
 if(eB.pre9 (v1.1,(((length v1.1:Nat):Int),((0:Int),v1.2))))=true then
 letB (eB.fn9 (v1.1,(((length v1.1:Nat):Int),((0:Int),v1.2)))) fun v2=>
 if(cV.pre v2.1)=true then
 if(dX.pre v2.2.1.2.1)=true then
 if(decide (length ([]:List aF)+length v2.2.1.2.2.1<=hY))=true then
 letB (cV v2.1) fun v3=>
 letB (dX v2.2.1.2.1) fun v4=>
 some ((),((v2.2.2.1,(v3,(v2.2.2.2.1,(v2.2.1.1,(v4,((List.append ([]:List aF) v2.2.1.2.2.1),v2.2.1.2.2.2)))))),()))
 else
 none
 else
 none
 else
 none
 else
 none
 else
 none
theorem uM(x1 x2 x3 x4 x5 x6 x7 x8 x9 x10 x11 x12 x13 x14 x15)(hp:pre4 (x1,(x2,(x3,(x4,(x5,(x6,(x7,(x8,(x9,(x10,(x11,(x12,(x13,(x14,(x15,())))))))))))))))=true):Rounds pre4 lN fn4 (x1,(x2,(x3,(x4,(x5,(x6,(x7,(x8,(x9,(x10,(x11,(x12,(x13,(x14,(x15,()))))))))))))))) (eA x1 x2 x3 x4 x5 x6 x7 x8 x9 x10 x11 x12 x13 x14 x15):=by
 have hp:rT bC.pre x2 x3 x4 x7=true:=hp
 unfold eA
 by_cases hlt:x4<x3
 . obtain⟨hq,h0,h1,h2,h3,h4,h5,h6⟩:=aA1 pF hp hlt
   rw[h3]
   refine eQ (Zd hlt) ?_
   refine eQ (Zd h0) ?_
   refine eQ (Zd h1) ?_
   refine eQ hq ?_
   refine aEc ?_
   refine eQ (Zd h2) ?_
   exact⟨h4,h6,congrArg (fun z:List bS=>((x1,(x5,(x6,(z,(x8,(x9,(x10,(x11,(x12,(x13,(x14,(x15,())))))))))))):O4)) h5⟩
 . refine jJ (by rw[Za];exact hlt) ?_
   show _=_
   exact congrArg (fun z:List bS=>((x1,(x5,(x6,(z,(x8,(x9,(x10,(x11,(x12,(x13,(x14,(x15,())))))))))))):O4)) (aBG hp hlt).symm
theorem ok9(x1 x2 x3 x4 x5 x6 x7 x8 x9 x10 x11 x12 x13 x14)(hp:pre9 (x1,(x2,(x3,(x4,(x5,(x6,(x7,(x8,(x9,(x10,(x11,(x12,(x13,(x14,()))))))))))))))=true):Rounds pre9 mu9 fn9 (x1,(x2,(x3,(x4,(x5,(x6,(x7,(x8,(x9,(x10,(x11,(x12,(x13,(x14,())))))))))))))) (aHA x1 x2 x3 x4 x5 x6 x7 x8 x9 x10 x11 x12 x13 x14):=by
 have hp:rT aT.pre x1 x2 x3 x7=true:=hp
 unfold aHA
 by_cases hlt:x3<x2
 . obtain⟨hq,h0,h1,h2,h3,h4,h5,h6⟩:=aA1 oB hp hlt
   rw[h3]
   refine eQ (Zd hlt) ?_
   refine eQ (Zd h0) ?_
   refine eQ (Zd h1) ?_
   refine eQ hq ?_
   refine aEc ?_
   refine eQ (Zd h2) ?_
   exact⟨h4,h6,congrArg (fun z:List aD=>((x4,(x5,(x6,(z,(x8,(x9,(x10,(x11,(x12,(x13,(x14,()))))))))))):O9)) h5⟩
 . refine jJ (by rw[Za];exact hlt) ?_
   show _=_
   exact congrArg (fun z:List aD=>((x4,(x5,(x6,(z,(x8,(x9,(x10,(x11,(x12,(x13,(x14,()))))))))))):O9)) (aBG hp hlt).symm
theorem eq(x0:bA)(_:wf x0)(hp:pre x0=true):aQ x0=some ((),(eB x0,())):=by
 simp only[pre,Zb] at hp
 obtain⟨a1,a2,a3,a4,a5,a6,a7,a8⟩:=hp
 unfold aQ
 refine bV (show pre4 _=true from wS a1 a2) (eN ?_)
 refine bV (show pre9 _=true from wS a5 a6) (eN ?_)
 refine bV (show cV.pre x0.2.1=true by rw[cV.pre,a3,a4];rfl) ?_
 refine bV (show dX.pre x0.2.2.2.2.1=true from a7) ?_
 exact bV (Zd (uD a8)) rfl
end eB
def eE(x:bA):bA:=x
namespace eE
abbrev S3:Type:=(Int×(bA×(Int×zt8)))
abbrev O3:Type:=(bA×(Int×zt8))
abbrev S7:Type:=(Int×(bA×(Int×zt8)))
abbrev O7:Type:=(bA×(Int×zt8))
abbrev S11:Type:=(Int×(bA×(Int×zt8)))
abbrev O11:Type:=(Int×zt8)
def pre(x:bA):Bool:=cH x.1&&(x.1.all bP.pre&&(cH x.2.1&&(x.2.1.all aK.pre&&(cH x.2.2.1&&(x.2.2.1.all aU.pre&&(cH x.2.2.2.2.1&&cH x.2.2.2.2.2.1))))))
def pre3:S3->Bool:=fun(x1,x2,_,_,_,_,_,_,_,_,_,x12,_,_,_,_,_)=>rT bP.pre x2.1 ((length x2.1:Nat):Int) x1 x12
def fn3:S3->O3:=fun(x1,x2,x3,x4,x5,x6,x7,x8,x9,x10,x11,x12,x13,x14,x15,x16,_)=>(x2,(x3,(x4,(x5,(x6,(x7,(x8,(x9,(x10,(x11,(x12++x2.1.drop x1.toNat,(x13,(x14,(x15,(x16,())))))))))))))))
def mu3:S3->Nat:=fun(x1,x2,_,_,_,_,_,_,_,_,_,_,_,_,_,_,_)=>x2.1.length-x1.toNat
def pre7:S7->Bool:=fun(x1,x2,_,_,_,_,_,_,_,_,_,_,x13,_,_,_,_)=>rT aK.pre x2.2.1 ((length x2.2.1:Nat):Int) x1 x13
def fn7:S7->O7:=fun(x1,x2,x3,x4,x5,x6,x7,x8,x9,x10,x11,x12,x13,x14,x15,x16,_)=>(x2,(x3,(x4,(x5,(x6,(x7,(x8,(x9,(x10,(x11,(x12,(x13++x2.2.1.drop x1.toNat,(x14,(x15,(x16,())))))))))))))))
def mu7:S7->Nat:=fun(x1,x2,_,_,_,_,_,_,_,_,_,_,_,_,_,_,_)=>x2.2.1.length-x1.toNat
def pre11:S11->Bool:=fun(x1,x2,_,_,_,_,_,_,_,_,_,_,_,x14,_,_,_)=>rT aU.pre x2.2.2.1 ((length x2.2.2.1:Nat):Int) x1 x14
def fn11:S11->O11:=fun(x1,x2,x3,x4,x5,x6,x7,x8,x9,x10,x11,x12,x13,x14,x15,x16,_)=>(x3,(x4,(x5,(x6,(x7,(x8,(x9,(x10,(x11,(x12,(x13,(x14++x2.2.2.1.drop x1.toNat,(x15,(x16,()))))))))))))))
def aLJ:S11->Nat:=fun(x1,x2,_,_,_,_,_,_,_,_,_,_,_,_,_,_,_)=>x2.2.2.1.length-x1.toNat
noncomputable def aDk(x1:Int)(x2:bA)(x3:Int)(x4:Unit)(x5:(List bS))(x6:(List aC))(x7:(List aD))(x8:(List Int))(x9:(List aF))(x10:Int)(x11:Unit)(x12:(List bS))(x13:(List aC))(x14:(List aD))(x15:(List Int))(x16:(List aF)):Option ((Int×(bA×(Int×zt8)))⊕(bA×(Int×zt8))):=
 if(decide (x1<((length x2.1:Nat):Int)))=true then
 if(decide ((0:Int)<=x1))=true then
 if(decide (x1<((length x2.1:Nat):Int)))=true then
 if(bP.pre (List.getD x2.1 (Int.toNat x1) pF))=true then
 letB (bP (List.getD x2.1 (Int.toNat x1) pF)) fun v1=>
 if(decide (length x12+length (v1::([]:List bS))<=hY))=true then
 some (.inl ((wrap .i64 (x1+(1:Int))),(x2,(x3,(x4,(x5,(x6,(x7,(x8,(x9,(x10,(x11,((List.append x12 (v1::([]:List bS))),(x13,(x14,(x15,(x16,())))))))))))))))))
 else
 none
 else
 none
 else
 none
 else
 none
 else
 some (.inr (x2,(x3,(x4,(x5,(x6,(x7,(x8,(x9,(x10,(x11,(x12,(x13,(x14,(x15,(x16,()))))))))))))))))
noncomputable def aLd(x1:Int)(x2:bA)(x3:Int)(x4:Unit)(x5:(List bS))(x6:(List aC))(x7:(List aD))(x8:(List Int))(x9:(List aF))(x10:Int)(x11:Unit)(x12:(List bS))(x13:(List aC))(x14:(List aD))(x15:(List Int))(x16:(List aF)):Option ((Int×(bA×(Int×zt8)))⊕(bA×(Int×zt8))):=
 if(decide (x1<((length x2.2.1:Nat):Int)))=true then
 if(decide ((0:Int)<=x1))=true then
 if(decide (x1<((length x2.2.1:Nat):Int)))=true then
 if(aK.pre (List.getD x2.2.1 (Int.toNat x1) jY))=true then
 letB (aK (List.getD x2.2.1 (Int.toNat x1) jY)) fun v1=>
 if(decide (length x13+length (v1::([]:List aC))<=hY))=true then
 some (.inl ((wrap .i64 (x1+(1:Int))),(x2,(x3,(x4,(x5,(x6,(x7,(x8,(x9,(x10,(x11,(x12,((List.append x13 (v1::([]:List aC))),(x14,(x15,(x16,())))))))))))))))))
 else
 none
 else
 none
 else
 none
 else
 none
 else
 some (.inr (x2,(x3,(x4,(x5,(x6,(x7,(x8,(x9,(x10,(x11,(x12,(x13,(x14,(x15,(x16,()))))))))))))))))
noncomputable def aJj(x1:Int)(x2:bA)(x3:Int)(x4:Unit)(x5:(List bS))(x6:(List aC))(x7:(List aD))(x8:(List Int))(x9:(List aF))(x10:Int)(x11:Unit)(x12:(List bS))(x13:(List aC))(x14:(List aD))(x15:(List Int))(x16:(List aF)):Option ((Int×(bA×(Int×zt8)))⊕(Int×zt8)):=
 if(decide (x1<((length x2.2.2.1:Nat):Int)))=true then
 if(decide ((0:Int)<=x1))=true then
 if(decide (x1<((length x2.2.2.1:Nat):Int)))=true then
 if(aU.pre (List.getD x2.2.2.1 (Int.toNat x1) oB))=true then
 letB (aU (List.getD x2.2.2.1 (Int.toNat x1) oB)) fun v1=>
 if(decide (length x14+length (v1::([]:List aD))<=hY))=true then
 some (.inl ((wrap .i64 (x1+(1:Int))),(x2,(x3,(x4,(x5,(x6,(x7,(x8,(x9,(x10,(x11,(x12,(x13,((List.append x14 (v1::([]:List aD))),(x15,(x16,())))))))))))))))))
 else
 none
 else
 none
 else
 none
 else
 none
 else
 some (.inr (x3,(x4,(x5,(x6,(x7,(x8,(x9,(x10,(x11,(x12,(x13,(x14,(x15,(x16,())))))))))))))))
abbrev wf(x0:bA):Prop:=hN [(.val zk1 .f)] (x0,())
noncomputable def aQ(x0:bA):Option (Unit×(bA×Unit)):=
 if(decide (length ([]:List Int)+length x0.2.2.2.2.1<=hY))=true then
 if(decide (length ([]:List aF)+length x0.2.2.2.2.2.1<=hY))=true then
 if(eE.pre3 ((0:Int),(x0,((0:Int),((),(([]:List bS),(([]:List aC),(([]:List aD),(([]:List Int),(([]:List aF),(x0.2.2.2.1,((),(([]:List bS),(([]:List aC),(([]:List aD),((List.append ([]:List Int) x0.2.2.2.2.1),((List.append ([]:List aF) x0.2.2.2.2.2.1),())))))))))))))))))=true then
 letB (eE.fn3 ((0:Int),(x0,((0:Int),((),(([]:List bS),(([]:List aC),(([]:List aD),(([]:List Int),(([]:List aF),(x0.2.2.2.1,((),(([]:List bS),(([]:List aC),(([]:List aD),((List.append ([]:List Int) x0.2.2.2.2.1),((List.append ([]:List aF) x0.2.2.2.2.2.1),()))))))))))))))))) fun v1=>
 if(eE.pre7 ((0:Int),v1))=true then
 letB (eE.fn7 ((0:Int),v1)) fun v2=>
 if(eE.pre11 ((0:Int),v2))=true then
 letB (eE.fn11 ((0:Int),v2)) fun v3=>
 some ((),((v3.2.2.2.2.2.2.2.2.2.1,(v3.2.2.2.2.2.2.2.2.2.2.1,(v3.2.2.2.2.2.2.2.2.2.2.2.1,(v3.2.2.2.2.2.2.2.1,(v3.2.2.2.2.2.2.2.2.2.2.2.2.1,(v3.2.2.2.2.2.2.2.2.2.2.2.2.2.1,v3.2.2.2.2.2.2.2.2.1)))))),()))
 else
 none
 else
 none
 else
 none
 else
 none
 else
 none
theorem ok3(x1 x2 x3 x4 x5 x6 x7 x8 x9 x10 x11 x12 x13 x14 x15 x16)(hp:pre3 (x1,(x2,(x3,(x4,(x5,(x6,(x7,(x8,(x9,(x10,(x11,(x12,(x13,(x14,(x15,(x16,()))))))))))))))))=true):Rounds pre3 mu3 fn3 (x1,(x2,(x3,(x4,(x5,(x6,(x7,(x8,(x9,(x10,(x11,(x12,(x13,(x14,(x15,(x16,())))))))))))))))) (aDk x1 x2 x3 x4 x5 x6 x7 x8 x9 x10 x11 x12 x13 x14 x15 x16):=by
 have hp:rT bP.pre x2.1 ((length x2.1:Nat):Int) x1 x12=true:=hp
 unfold aDk
 by_cases hlt:x1<((length x2.1:Nat):Int)
 . obtain⟨hq,h0,h1,h2,h3,h4,h5,h6⟩:=aA1 pF hp hlt
   rw[h3]
   refine eQ (Zd hlt) ?_
   refine eQ (Zd h0) ?_
   refine eQ (Zd h1) ?_
   refine eQ hq ?_
   refine aEc ?_
   refine eQ (Zd h2) ?_
   exact⟨h4,h6,congrArg (fun z:List bS=>((x2,(x3,(x4,(x5,(x6,(x7,(x8,(x9,(x10,(x11,(z,(x13,(x14,(x15,(x16,()))))))))))))))):O3)) h5⟩
 . refine jJ (by rw[Za];exact hlt) ?_
   show _=_
   exact congrArg (fun z:List bS=>((x2,(x3,(x4,(x5,(x6,(x7,(x8,(x9,(x10,(x11,(z,(x13,(x14,(x15,(x16,()))))))))))))))):O3)) (aBG hp hlt).symm
theorem ok7(x1 x2 x3 x4 x5 x6 x7 x8 x9 x10 x11 x12 x13 x14 x15 x16)(hp:pre7 (x1,(x2,(x3,(x4,(x5,(x6,(x7,(x8,(x9,(x10,(x11,(x12,(x13,(x14,(x15,(x16,()))))))))))))))))=true):Rounds pre7 mu7 fn7 (x1,(x2,(x3,(x4,(x5,(x6,(x7,(x8,(x9,(x10,(x11,(x12,(x13,(x14,(x15,(x16,())))))))))))))))) (aLd x1 x2 x3 x4 x5 x6 x7 x8 x9 x10 x11 x12 x13 x14 x15 x16):=by
 have hp:rT aK.pre x2.2.1 ((length x2.2.1:Nat):Int) x1 x13=true:=hp
 unfold aLd
 by_cases hlt:x1<((length x2.2.1:Nat):Int)
 . obtain⟨hq,h0,h1,h2,h3,h4,h5,h6⟩:=aA1 jY hp hlt
   rw[h3]
   refine eQ (Zd hlt) ?_
   refine eQ (Zd h0) ?_
   refine eQ (Zd h1) ?_
   refine eQ hq ?_
   refine aEc ?_
   refine eQ (Zd h2) ?_
   exact⟨h4,h6,congrArg (fun z:List aC=>((x2,(x3,(x4,(x5,(x6,(x7,(x8,(x9,(x10,(x11,(x12,(z,(x14,(x15,(x16,()))))))))))))))):O7)) h5⟩
 . refine jJ (by rw[Za];exact hlt) ?_
   show _=_
   exact congrArg (fun z:List aC=>((x2,(x3,(x4,(x5,(x6,(x7,(x8,(x9,(x10,(x11,(x12,(z,(x14,(x15,(x16,()))))))))))))))):O7)) (aBG hp hlt).symm
theorem aM4(x1 x2 x3 x4 x5 x6 x7 x8 x9 x10 x11 x12 x13 x14 x15 x16)(hp:pre11 (x1,(x2,(x3,(x4,(x5,(x6,(x7,(x8,(x9,(x10,(x11,(x12,(x13,(x14,(x15,(x16,()))))))))))))))))=true):Rounds pre11 aLJ fn11 (x1,(x2,(x3,(x4,(x5,(x6,(x7,(x8,(x9,(x10,(x11,(x12,(x13,(x14,(x15,(x16,())))))))))))))))) (aJj x1 x2 x3 x4 x5 x6 x7 x8 x9 x10 x11 x12 x13 x14 x15 x16):=by
 have hp:rT aU.pre x2.2.2.1 ((length x2.2.2.1:Nat):Int) x1 x14=true:=hp
 unfold aJj
 by_cases hlt:x1<((length x2.2.2.1:Nat):Int)
 . obtain⟨hq,h0,h1,h2,h3,h4,h5,h6⟩:=aA1 oB hp hlt
   rw[h3]
   refine eQ (Zd hlt) ?_
   refine eQ (Zd h0) ?_
   refine eQ (Zd h1) ?_
   refine eQ hq ?_
   refine aEc ?_
   refine eQ (Zd h2) ?_
   exact⟨h4,h6,congrArg (fun z:List aD=>((x3,(x4,(x5,(x6,(x7,(x8,(x9,(x10,(x11,(x12,(x13,(z,(x15,(x16,())))))))))))))):O11)) h5⟩
 . refine jJ (by rw[Za];exact hlt) ?_
   show _=_
   exact congrArg (fun z:List aD=>((x3,(x4,(x5,(x6,(x7,(x8,(x9,(x10,(x11,(x12,(x13,(z,(x15,(x16,())))))))))))))):O11)) (aBG hp hlt).symm
theorem eq(x0:bA)(_:wf x0)(hp:pre x0=true):aQ x0=some ((),(eE x0,())):=by
 simp only[pre,Zb] at hp
 obtain⟨a1,a2,a3,a4,a5,a6,a7,a8⟩:=hp
 unfold aQ
 refine bV (Zd (uD a7)) (bV (Zd (uD a8)) ?_)
 refine bV (show pre3 _=true from wS a1 a2) (eN ?_)
 refine bV (show pre7 _=true from wS a3 a4) (eN ?_)
 exact bV (show pre11 _=true from wS a5 a6) (eN rfl)
end eE
def xI(ok:Nat->Bool):Nat->Nat->Bool
 |_,0=>true
 |i,k+1=>ok i&&xI ok (i+1) k
theorem aFT{ok:Nat->Bool}:(k i:Nat)->(xI ok i k=true↔∀j,i<=j->j<i+k->ok j=true)
 |0,i=>by simp only[xI,true_iff];intro j h1 h2;omega
 |k+1,i=>by
  simp only[xI,Zb,aFT k (i+1)]
  constructor
  . rintro⟨h1,h2⟩ j h3 h4
    rcases Nat.lt_or_ge i j with h|h
    . exact h2 j h (by omega)
    . rw[show j=i by omega];exact h1
  . intro h
    exact⟨h i (Nat.le_refl _) (by omega),fun j h1 h2=>h j (by omega) (by omega)⟩
theorem aBI{ok:Nat->Bool}{n:Nat}:xI ok 0 n=true↔∀j,j<n->ok j=true:=by
 rw[aFT]
 exact⟨fun h j hj=>h j (Nat.zero_le _) (by omega),fun h j _ hj=>h j (by omega)⟩
theorem aJC{α:Type}{p:α->Bool}{xs:List α}(h:xs.all p=true){i:Nat}(hi:i<xs.length)(d:α):p (xs.getD i d)=true:=by
 rw[cX hi];exact Zu.1 h _ (List.getElem_mem _)
section
variable {α β:Type}
def sX(n:Nat)(i:Int):Bool:=decide (n<=16777216)&&(decide (0<=i)&&decide (i<=(n:Int)))
def aB1(ok:Nat->Bool)(n:Nat)(i:Int)(r:β):(Bool×Unit)⊕β:=cond (xI ok i.toNat (n-i.toNat)) (.inr r) (.inl (false,()))
theorem pV{n:Nat}{i:Int}(h:sX n i=true):n<=16777216/\0<=i/\i<=(n:Int):=by
 simpa only[sX,Zb,Za] using h
theorem aAK{n:Nat}{i:Int}(h:sX n i=true)(hlt:i<(n:Int)):
 wrap .i64 (i+1)=i+1/\sX n (i+1)=true/\n-(i+1).toNat<n-i.toNat/\(i+1).toNat=i.toNat+1:=by
 obtain⟨h1,h2,h3⟩:=pV h
 refine⟨lF (by omega) (by omega),?_,by omega,by omega⟩
 simp only[sX,Zb,Za];omega
theorem aAV{n:Nat}{i:Int}(h:sX n i=true)(h0:0<i):wrap .i64 (i-1)=i-1/\0<=i-1/\i-1<(n:Int)/\(i-1).toNat=i.toNat-1/\¬i.toNat=0:=by
 obtain⟨h1,h2,h3⟩:=pV h
 exact⟨lF (by omega) (by omega),by omega,by omega,by omega,by omega⟩
theorem aB9{ok:Nat->Bool}{n:Nat}{i:Int}{r:β}(h:sX n i=true)(hlt:i<(n:Int))(hk:ok i.toNat=true):aB1 ok n (i+1) r=aB1 ok n i r:=by
 obtain⟨h1,h2,h3⟩:=pV h
 unfold aB1
 rw[show n-i.toNat=(n-(i+1).toNat)+1 by omega,xI,hk,Bool.true_and,show(i+1).toNat=i.toNat+1 by omega]
theorem aBk{ok:Nat->Bool}{n:Nat}{i:Int}{r:β}(h:sX n i=true)(hlt:i<(n:Int))(hk:ok i.toNat=false):.inl (false,())=aB1 ok n i r:=by
 obtain⟨h1,h2,h3⟩:=pV h
 unfold aB1
 rw[show n-i.toNat=(n-(i+1).toNat)+1 by omega,xI,hk];rfl
theorem aDp{ok:Nat->Bool}{n:Nat}{i:Int}{r:β}(h:sX n i=true)(hlt:¬i<(n:Int)):.inr r=aB1 ok n i r:=by
 obtain⟨h1,h2,h3⟩:=pV h
 unfold aB1
 rw[show n-i.toNat=0 by omega];rfl
theorem zG{n:Nat}(h:n<=16777216):sX n 0=true:=by simp[sX,h]
theorem aCt{ok:Nat->Bool}{n:Nat}{r:β}:aB1 ok n 0 r=cond (xI ok 0 n) (.inr r) (.inl (false,())):=by simp[aB1]
end
def aDK(e:aP):Bool:=fT e.2.1&&(fT e.2.2.1&&(aA e.2.2.2.1 0 3&&aA e.2.2.2.2.1 0 100000))
def uA(x:bS)(j:Nat):Bool:=aA (x.2.2.1.getD j lL).1 x.1 (wrap .i64 (x.2.1-1))&&((decide (j=0)||decide ((x.2.2.1.getD (j-1) lL).1<(x.2.2.1.getD j lL).1))&&aDK (x.2.2.1.getD j lL))
def fN(x:bS):Bool:=aA x.1 0 x.2.1&&(decide (x.2.1<=100000)&&(decide ((x.2.2.1.length:Int)<=80)&&xI (uA x) 0 x.2.2.1.length))
abbrev dW:=fN
abbrev eP:=fN
namespace dW
abbrev S4:Type:=((List aP)×(Int×(Int×(bS×Unit))))
abbrev O4:Type:=((Bool×Unit)⊕Unit)
def pre(x:bS):Bool:=cH x.2.2.1
noncomputable def pre4:S4->Bool:=fun(x1,x2,x3,x4,_)=>same x1 x4.2.2.1&&(decide (x2=(x4.2.2.1.length:Int))&&sX x4.2.2.1.length x3)
def fn4:S4->O4:=fun(_,_,x3,x4,_)=>aB1 (uA x4) x4.2.2.1.length x3 ()
def lN:S4->Nat:=fun(_,_,x3,x4,_)=>x4.2.2.1.length-x3.toNat
noncomputable def eA(x1:(List aP))(x2:Int)(x3:Int)(x4:bS):Option (((List aP)×(Int×(Int×(bS×Unit))))⊕((Bool×Unit)⊕Unit)):=
 if(decide (x3<x2))=true then
 if(decide ((0:Int)<=x3))=true then
 if(decide (x3<((length x1:Nat):Int)))=true then
 letB (aA (List.getD x1 (Int.toNat x3) lL).1 x4.1 (wrap .i64 (x4.2.1-(1:Int)))) fun v1=>
 if(!v1)=true then
 some (.inr (.inl (false,())))
 else
 if(decide ((0:Int)<x3))=true then
 if(decide ((0:Int)<=(wrap .i64 (x3-(1:Int)))))=true then
 if(decide ((wrap .i64 (x3-(1:Int)))<((length x4.2.2.1:Nat):Int)))=true then
 if(decide ((List.getD x1 (Int.toNat x3) lL).1<=(List.getD x4.2.2.1 (Int.toNat (wrap .i64 (x3-(1:Int)))) lL).1))=true then
 some (.inr (.inl (false,())))
 else
 letB (fT (List.getD x1 (Int.toNat x3) lL).2.1) fun v2=>
 if(!v2)=true then
 some (.inr (.inl (false,())))
 else
 letB (fT (List.getD x1 (Int.toNat x3) lL).2.2.1) fun v3=>
 if(!v3)=true then
 some (.inr (.inl (false,())))
 else
 letB (aA (List.getD x1 (Int.toNat x3) lL).2.2.2.1 (0:Int) (3:Int)) fun v4=>
 if(!v4)=true then
 some (.inr (.inl (false,())))
 else
 letB (aA (List.getD x1 (Int.toNat x3) lL).2.2.2.2.1 (0:Int) (100000:Int)) fun v5=>
 if(!v5)=true then
 some (.inr (.inl (false,())))
 else
 some (.inl (x1,(x2,((wrap .i64 (x3+(1:Int))),(x4,())))))
 else
 none
 else
 none
 else
 letB (fT (List.getD x1 (Int.toNat x3) lL).2.1) fun v6=>
 if(!v6)=true then
 some (.inr (.inl (false,())))
 else
 letB (fT (List.getD x1 (Int.toNat x3) lL).2.2.1) fun v7=>
 if(!v7)=true then
 some (.inr (.inl (false,())))
 else
 letB (aA (List.getD x1 (Int.toNat x3) lL).2.2.2.1 (0:Int) (3:Int)) fun v8=>
 if(!v8)=true then
 some (.inr (.inl (false,())))
 else
 letB (aA (List.getD x1 (Int.toNat x3) lL).2.2.2.2.1 (0:Int) (100000:Int)) fun v9=>
 if(!v9)=true then
 some (.inr (.inl (false,())))
 else
 some (.inl (x1,(x2,((wrap .i64 (x3+(1:Int))),(x4,())))))
 else
 none
 else
 none
 else
 some (.inr (.inr ()))
abbrev wf(x0:bS):Prop:=hN [(.val sZ .f)] (x0,())
noncomputable def aQ(x0:bS):Option mO:=
 letB (aA x0.1 (0:Int) x0.2.1) fun v1=>
 if(!v1)=true then
  some ((),(false,()))
 else
  if(decide ((100000:Int)<x0.2.1))=true then
   some ((),(false,()))
  else
   if(decide ((80:Int)<((length x0.2.2.1:Nat):Int)))=true then
    some ((),(false,()))
   else
    if(dW.pre4 (x0.2.2.1,(((length x0.2.2.1:Nat):Int),((0:Int),(x0,())))))=true then
     letB (dW.fn4 (x0.2.2.1,(((length x0.2.2.1:Nat):Int),((0:Int),(x0,()))))) fun v2=>
     match v2 with
     |.inl y=>
      some ((),y)
     |.inr y=>
      some ((),(true,()))
    else
     none
theorem uM(x1:List aP)(x2 x3:Int)(x4:bS)(hp:pre4 (x1,(x2,(x3,(x4,()))))=true):Rounds pre4 lN fn4 (x1,(x2,(x3,(x4,())))) (eA x1 x2 x3 x4):=by
 simp only[pre4,Zb,Za,cF] at hp
 obtain⟨rfl,rfl,ha⟩:=hp
 obtain⟨h1,h2,h3⟩:=pV ha
 unfold eA
 by_cases hlt:x3<(x4.2.2.1.length:Int)
 . obtain⟨n1,n2,n3,n4⟩:=aAK ha hlt
   have nxt:uA x4 x3.toNat=true->Rounds pre4 lN fn4 (x4.2.2.1,((x4.2.2.1.length:Int),(x3,(x4,())))) (some (.inl (x4.2.2.1,((x4.2.2.1.length:Int),(x3+1,(x4,())))))):=
    fun h=>⟨by simp only[pre4,mH,n2];simp,n3,aB9 ha hlt h⟩
   have stp:uA x4 x3.toNat=false->Rounds pre4 lN fn4 (x4.2.2.1,((x4.2.2.1.length:Int),(x3,(x4,())))) (some (.inr (.inl (false,())))):=fun h=>aBk ha hlt h
   simp only[letB,n1,hlt,h2,decide_true,if_true]
   by_cases h0:0<x3
   . obtain⟨p1,p2,p3,p4,p5⟩:=aAV ha h0
     simp only[p1,p2,p3,p4,h0,decide_true,if_true]
     simp only[uA,aDK,p5,decide_false,Bool.false_or] at nxt stp
     generalize x4.2.2.1.getD x3.toNat lL=e at *
     generalize x4.2.2.1.getD (x3.toNat-1) lL=e' at *
     generalize aA e.1 x4.1 (wrap .i64 (x4.2.1-1))=b1 at *
     generalize fT e.2.1=b2 at *
     generalize fT e.2.2.1=b3 at *
     generalize aA e.2.2.2.1 0 3=b4 at *
     generalize aA e.2.2.2.2.1 0 100000=b5 at *
     by_cases hd:e.1<=e'.1
     . simp only[hd,show ¬e'.1<e.1 by omega,decide_true,decide_false,if_true] at *
       cases b1<;>exact stp rfl
     . simp only[hd,show e'.1<e.1 by omega,decide_true,decide_false] at *
       cases b1
       . exact stp rfl
       cases b2
       . exact stp rfl
       cases b3
       . exact stp rfl
       cases b4
       . exact stp rfl
       cases b5
       . exact stp rfl
       . exact nxt rfl
   . have p5:x3.toNat=0:=by omega
     simp only[h0,decide_false,Zj,if_false]
     simp only[uA,aDK,p5,decide_true,Bool.true_or,Bool.true_and] at nxt stp ⊢
     generalize x4.2.2.1.getD 0 lL=e at *
     generalize aA e.1 x4.1 (wrap .i64 (x4.2.1-1))=b1 at *
     generalize fT e.2.1=b2 at *
     generalize fT e.2.2.1=b3 at *
     generalize aA e.2.2.2.1 0 3=b4 at *
     generalize aA e.2.2.2.2.1 0 100000=b5 at *
     cases b1
     . exact stp rfl
     cases b2
     . exact stp rfl
     cases b3
     . exact stp rfl
     cases b4
     . exact stp rfl
     cases b5
     . exact stp rfl
     . exact nxt rfl
 . rw[if_neg (by simp[hlt])]
   exact aDp ha hlt
theorem eq(x0:bS)(_:wf x0)(hp:pre x0=true):aQ x0=some ((),(dW x0,())):=by
 have hs:=bW.1 hp
 unfold aQ dW fN
 simp only[letB]
 cases aA x0.1 0 x0.2.1
 . rfl
 by_cases h1:100000<x0.2.1
 . rw[if_neg (by decide),if_pos (Zd h1),decide_eq_false (p:=x0.2.1<=100000) (by omega)];rfl
 by_cases h2:80<(x0.2.2.1.length:Int)
 . rw[if_neg (by decide),if_neg (by simp[h1]),if_pos (Zd h2),Zd (p:=x0.2.1<=100000) (by omega),decide_eq_false (p:=(x0.2.2.1.length:Int)<=80) (by omega)];rfl
 rw[if_neg (by decide),if_neg (by simp[h1]),if_neg (by simp[h2]),Zd (p:=x0.2.1<=100000) (by omega),Zd (p:=(x0.2.2.1.length:Int)<=80) (by omega),
  if_pos (show pre4 _=true by simp only[pre4,mH,zG hs];simp)]
 rw[show fn4 (x0.2.2.1,((x0.2.2.1.length:Int),((0:Int),(x0,()))))=_ from aCt]
 cases xI (uA x0) 0 x0.2.2.1.length<;>rfl
end dW
abbrev lQ:=aDK
namespace lQ
def pre(e:aP):Bool:=decide (e.1<=e.1)
abbrev wf(x0:aP):Prop:=hN [(.val zI .f)] (x0,())
noncomputable def aQ(x0:aP):Option mO:=
 letB (fT x0.2.1) fun v1=>
 if v1=true then
 letB (fT x0.2.2.1) fun v2=>
 if v2=true then
 letB (aA x0.2.2.2.1 (0:Int) (3:Int)) fun v3=>
 if v3=true then
 letB (aA x0.2.2.2.2.1 (0:Int) (100000:Int)) fun v4=>
 some ((),(v4,()))
 else
 some ((),(false,()))
 else
 some ((),(false,()))
 else
 some ((),(false,()))
theorem eq(x0:aP)(_:wf x0)(_:pre x0=true):aQ x0=some ((),(lQ x0,())):=by
 unfold aQ
 show _=some ((),(aDK x0,()))
 unfold aDK
 simp only[letB]
 cases fT x0.2.1<;>cases fT x0.2.2.1<;>cases aA x0.2.2.2.1 0 3<;>simp
end lQ
namespace eP
abbrev S2:Type:=(Int×(bS×Unit))
abbrev O2:Type:=((Bool×Unit)⊕(bS×Unit))
def pre(x:bS):Bool:=cH x.2.2.1
def pre2:S2->Bool:=fun(x1,x2,_)=>sX x2.2.2.1.length x1
def fn2:S2->O2:=fun(x1,x2,_)=>aB1 (uA x2) x2.2.2.1.length x1 (x2,())
def mA:S2->Nat:=fun(x1,x2,_)=>x2.2.2.1.length-x1.toNat
noncomputable def dT(x1:Int)(x2:bS):Option ((Int×(bS×Unit))⊕((Bool×Unit)⊕(bS×Unit))):=
 if(decide (x1<((length x2.2.2.1:Nat):Int)))=true then
 if(decide ((0:Int)<=x1))=true then
 if(decide (x1<((length x2.2.2.1:Nat):Int)))=true then
 if(lQ.pre (List.getD x2.2.2.1 (Int.toNat x1) lL))=true then
 letB (aDK (List.getD x2.2.2.1 (Int.toNat x1) lL)) fun v1=>
 if(!v1)=true then
 some (.inr (.inl (false,())))
 else
 if(decide ((0:Int)<=x1))=true then
 if(decide (x1<((length x2.2.2.1:Nat):Int)))=true then
 letB (aA (List.getD x2.2.2.1 (Int.toNat x1) lL).1 x2.1 (wrap .i64 (x2.2.1-(1:Int)))) fun v2=>
 if(!v2)=true then
 some (.inr (.inl (false,())))
 else
 if(decide ((0:Int)<x1))=true then
 if(decide ((0:Int)<=(wrap .i64 (x1-(1:Int)))))=true then
 if(decide ((wrap .i64 (x1-(1:Int)))<((length x2.2.2.1:Nat):Int)))=true then
 if(decide ((0:Int)<=x1))=true then
 if(decide (x1<((length x2.2.2.1:Nat):Int)))=true then
 if(decide ((List.getD x2.2.2.1 (Int.toNat x1) lL).1<=(List.getD x2.2.2.1 (Int.toNat (wrap .i64 (x1-(1:Int)))) lL).1))=true then
 some (.inr (.inl (false,())))
 else
 some (.inl ((wrap .i64 (x1+(1:Int))),(x2,())))
 else
 none
 else
 none
 else
 none
 else
 none
 else
 some (.inl ((wrap .i64 (x1+(1:Int))),(x2,())))
 else
 none
 else
 none
 else
 none
 else
 none
 else
 none
 else
 some (.inr (.inr (x2,())))
abbrev wf(x0:bS):Prop:=hN [(.val sZ .f)] (x0,())
noncomputable def aQ(x0:bS):Option mO:=
 if(eP.pre2 ((0:Int),(x0,())))=true then
  letB (eP.fn2 ((0:Int),(x0,()))) fun v1=>
  match v1 with
  |.inl y=>
   some ((),y)
  |.inr y=>
   letB (aA y.1.1 (0:Int) y.1.2.1) fun v2=>
   if v2=true then
    if(decide (y.1.2.1<=(100000:Int)))=true then
     some ((),((decide (((length y.1.2.2.1:Nat):Int)<=(80:Int))),()))
    else
     some ((),(false,()))
   else
    some ((),(false,()))
 else
  none
theorem rR(x1:Int)(x2:bS)(ha:pre2 (x1,(x2,()))=true):Rounds pre2 mA fn2 (x1,(x2,())) (dT x1 x2):=by
 have ha:sX x2.2.2.1.length x1=true:=ha
 obtain⟨h1,h2,h3⟩:=pV ha
 unfold dT
 by_cases hlt:x1<(x2.2.2.1.length:Int)
 . obtain⟨n1,n2,n3,n4⟩:=aAK ha hlt
   have nxt:uA x2 x1.toNat=true->Rounds pre2 mA fn2 (x1,(x2,())) (some (.inl (x1+1,(x2,())))):=fun h=>⟨n2,n3,aB9 ha hlt h⟩
   have stp:uA x2 x1.toNat=false->Rounds pre2 mA fn2 (x1,(x2,())) (some (.inr (.inl (false,())))):=fun h=>aBk ha hlt h
   simp only[letB,n1,hlt,h2,decide_true,if_true,show lQ.pre (x2.2.2.1.getD x1.toNat lL)=true from Zd (Int.le_refl _)]
   by_cases h0:0<x1
   . obtain⟨p1,p2,p3,p4,p5⟩:=aAV ha h0
     simp only[p1,p2,p3,p4,h0,decide_true,if_true]
     simp only[uA,p5,decide_false,Bool.false_or] at nxt stp
     generalize x2.2.2.1.getD x1.toNat lL=e at *
     generalize x2.2.2.1.getD (x1.toNat-1) lL=e' at *
     generalize aA e.1 x2.1 (wrap .i64 (x2.2.1-1))=b1 at *
     generalize aDK e=b2 at *
     by_cases hd:e.1<=e'.1
     . simp only[hd,show ¬e'.1<e.1 by omega,decide_true,decide_false,if_true] at *
       cases b1<;>cases b2<;>exact stp rfl
     . simp only[hd,show e'.1<e.1 by omega,decide_true,decide_false] at *
       cases b1<;>cases b2
       . exact stp rfl
       . exact stp rfl
       . exact stp rfl
       . exact nxt rfl
   . have p5:x1.toNat=0:=by omega
     simp only[h0,decide_false,Zj,if_false]
     simp only[uA,p5,decide_true,Bool.true_or,Bool.true_and] at nxt stp ⊢
     generalize x2.2.2.1.getD 0 lL=e at *
     generalize aA e.1 x2.1 (wrap .i64 (x2.2.1-1))=b1 at *
     generalize aDK e=b2 at *
     cases b1<;>cases b2
     . exact stp rfl
     . exact stp rfl
     . exact stp rfl
     . exact nxt rfl
 . rw[if_neg (by simp[hlt])]
   exact aDp ha hlt
theorem eq(x0:bS)(_:wf x0)(hp:pre x0=true):aQ x0=some ((),(eP x0,())):=by
 have hs:=bW.1 hp
 unfold aQ eP fN
 rw[if_pos (show pre2 ((0:Int),(x0,()))=true from zG hs),show fn2 ((0:Int),(x0,()))=_ from aCt]
 simp only[letB]
 cases xI (uA x0) 0 x0.2.2.1.length
 . simp
 simp only[cond_true]
 cases aA x0.1 0 x0.2.1<;>cases decide (x0.2.1<=100000)<;>cases decide ((x0.2.2.1.length:Int)<=80)<;>rfl
end eP
def aFP(xs:List aY)(j:Nat):Bool:=decide (j=0)||decide ((xs.getD (j-1) nW).2.1<(xs.getD j nW).2.1)
def aDx(m:aC)(j:Nat):Bool:=decide ((m.2.2.2.2.1.getD j nW).1=wrap .i64 (wrap .i64 (wrap .i64 (m.2.2.2.1-(m.2.2.2.2.1.length:Int))+1)+(j:Int)))&&(aA (m.2.2.2.2.1.getD j nW).2.1 0 100000&&aFP m.2.2.2.2.1 j)
def aHi(m:aC):Bool:=aA m.1 0 3&&(aA m.2.1 0 3&&(aA m.2.2.1 0 100000&&aA m.2.2.2.1 (-1) 100000))
def dR(m:aC)(w:Int):Bool:=aHi m&&(decide ((m.2.2.2.2.1.length:Int)<=w)&&((decide (m.2.2.2.1=-1)==decide ((m.2.2.2.2.1.length:Int)=0))&&xI (aDx m) 0 m.2.2.2.2.1.length))
namespace dR
abbrev S4:Type:=((List aY)×(Int×(Int×(aC×Unit))))
abbrev O4:Type:=((Bool×Unit)⊕Unit)
def pre(x:aC)(_:Int):Bool:=cH x.2.2.2.2.1
noncomputable def pre4:S4->Bool:=fun(x1,x2,x3,x4,_)=>same x1 x4.2.2.2.2.1&&(decide (x2=(x4.2.2.2.2.1.length:Int))&&sX x4.2.2.2.2.1.length x3)
def fn4:S4->O4:=fun(_,_,x3,x4,_)=>aB1 (aDx x4) x4.2.2.2.2.1.length x3 ()
def lN:S4->Nat:=fun(_,_,x3,x4,_)=>x4.2.2.2.2.1.length-x3.toNat
noncomputable def eA(x1:(List aY))(x2:Int)(x3:Int)(x4:aC):Option (((List aY)×(Int×(Int×(aC×Unit))))⊕((Bool×Unit)⊕Unit)):=
 if(decide (x3<x2))=true then
 if(decide ((0:Int)<=x3))=true then
 if(decide (x3<((length x1:Nat):Int)))=true then
 if(!(decide ((List.getD x1 (Int.toNat x3) nW).1=(wrap .i64 ((wrap .i64 ((wrap .i64 (x4.2.2.2.1-((length x4.2.2.2.2.1:Nat):Int)))+(1:Int)))+x3)))))=true then
 some (.inr (.inl (false,())))
 else
 letB (aA (List.getD x1 (Int.toNat x3) nW).2.1 (0:Int) (100000:Int)) fun v1=>
 if(!v1)=true then
 some (.inr (.inl (false,())))
 else
 if(decide ((0:Int)<x3))=true then
 if(decide ((0:Int)<=(wrap .i64 (x3-(1:Int)))))=true then
 if(decide ((wrap .i64 (x3-(1:Int)))<((length x4.2.2.2.2.1:Nat):Int)))=true then
 if(decide ((List.getD x1 (Int.toNat x3) nW).2.1<=(List.getD x4.2.2.2.2.1 (Int.toNat (wrap .i64 (x3-(1:Int)))) nW).2.1))=true then
 some (.inr (.inl (false,())))
 else
 some (.inl (x1,(x2,((wrap .i64 (x3+(1:Int))),(x4,())))))
 else
 none
 else
 none
 else
 some (.inl (x1,(x2,((wrap .i64 (x3+(1:Int))),(x4,())))))
 else
 none
 else
 none
 else
 some (.inr (.inr ()))
abbrev wf(x0:aC)(x1:Int):Prop:=hN [(.val vJ .f),(.val (.int .i64) .f)] (x0,(x1,()))
noncomputable def aQ(x0:aC)(x1:Int):Option mO:=
 letB (aA x0.1 (0:Int) (3:Int)) fun v1=>
 if(!v1)=true then
  some ((),(false,()))
 else
  letB (aA x0.2.1 (0:Int) (3:Int)) fun v2=>
  if(!v2)=true then
   some ((),(false,()))
  else
   letB (aA x0.2.2.1 (0:Int) (100000:Int)) fun v3=>
   if(!v3)=true then
    some ((),(false,()))
   else
    letB (aA x0.2.2.2.1 (-1:Int) (100000:Int)) fun v4=>
    if(!v4)=true then
     some ((),(false,()))
    else
     if(decide (x1<((length x0.2.2.2.2.1:Nat):Int)))=true then
      some ((),(false,()))
     else
      if(!((decide (x0.2.2.2.1=(-1:Int)))==(decide (((length x0.2.2.2.2.1:Nat):Int)=(0:Int)))))=true then
       some ((),(false,()))
      else
       if(dR.pre4 (x0.2.2.2.2.1,(((length x0.2.2.2.2.1:Nat):Int),((0:Int),(x0,())))))=true then
        letB (dR.fn4 (x0.2.2.2.2.1,(((length x0.2.2.2.2.1:Nat):Int),((0:Int),(x0,()))))) fun v5=>
        match v5 with
        |.inl y=>
         some ((),y)
        |.inr y=>
         some ((),(true,()))
       else
        none
theorem uM(x1:List aY)(x2 x3:Int)(x4:aC)(hp:pre4 (x1,(x2,(x3,(x4,()))))=true):Rounds pre4 lN fn4 (x1,(x2,(x3,(x4,())))) (eA x1 x2 x3 x4):=by
 simp only[pre4,Zb,Za,cF] at hp
 obtain⟨rfl,rfl,ha⟩:=hp
 obtain⟨h1,h2,h3⟩:=pV ha
 unfold eA
 by_cases hlt:x3<(x4.2.2.2.2.1.length:Int)
 . obtain⟨n1,n2,n3,n4⟩:=aAK ha hlt
   have nxt:aDx x4 x3.toNat=true->Rounds pre4 lN fn4 (x4.2.2.2.2.1,((x4.2.2.2.2.1.length:Int),(x3,(x4,())))) (some (.inl (x4.2.2.2.2.1,((x4.2.2.2.2.1.length:Int),(x3+1,(x4,())))))):=
    fun h=>⟨by simp only[pre4,mH,n2];simp,n3,aB9 ha hlt h⟩
   have stp:aDx x4 x3.toNat=false->Rounds pre4 lN fn4 (x4.2.2.2.2.1,((x4.2.2.2.2.1.length:Int),(x3,(x4,())))) (some (.inr (.inl (false,())))):=fun h=>aBk ha hlt h
   simp only[letB,n1,hlt,h2,decide_true,if_true]
   simp only[aDx,aFP,Int.toNat_of_nonneg h2] at nxt stp
   by_cases h0:0<x3
   . obtain⟨p1,p2,p3,p4,p5⟩:=aAV ha h0
     simp only[p1,p2,p3,p4,h0,decide_true,if_true]
     simp only[p5,decide_false,Bool.false_or] at nxt stp
     generalize x4.2.2.2.2.1.getD x3.toNat nW=e at *
     generalize x4.2.2.2.2.1.getD (x3.toNat-1) nW=e' at *
     generalize decide (e.1=_)=b1 at *
     generalize aA e.2.1 0 100000=b2 at *
     by_cases hd:e.2.1<=e'.2.1
     . simp only[hd,show ¬e'.2.1<e.2.1 by omega,decide_true,decide_false,if_true] at *
       cases b1<;>cases b2<;>exact stp rfl
     . simp only[hd,show e'.2.1<e.2.1 by omega,decide_true,decide_false] at *
       cases b1<;>cases b2
       . exact stp rfl
       . exact stp rfl
       . exact stp rfl
       . exact nxt rfl
   . have p5:x3.toNat=0:=by omega
     simp only[h0,decide_false,Zj,if_false]
     simp only[p5,decide_true,Bool.true_or,Bool.and_true] at nxt stp ⊢
     generalize x4.2.2.2.2.1.getD 0 nW=e at *
     generalize decide (e.1=_)=b1 at *
     generalize aA e.2.1 0 100000=b2 at *
     cases b1<;>cases b2
     . exact stp rfl
     . exact stp rfl
     . exact stp rfl
     . exact nxt rfl
 . rw[if_neg (by simp[hlt])]
   exact aDp ha hlt
theorem eq(x0:aC)(x1:Int)(_:wf x0 x1)(hp:pre x0 x1=true):aQ x0 x1=some ((),(dR x0 x1,())):=by
 have hs:=bW.1 (show cH x0.2.2.2.2.1=true from hp)
 unfold aQ dR aHi
 simp only[letB]
 rw[show pre4 (x0.2.2.2.2.1,((x0.2.2.2.2.1.length:Int),((0:Int),(x0,()))))=true by simp only[pre4,mH,zG hs];simp,
  show fn4 (x0.2.2.2.2.1,((x0.2.2.2.2.1.length:Int),((0:Int),(x0,()))))=_ from aCt]
 generalize xI (aDx x0) 0 x0.2.2.2.2.1.length=b
 generalize (decide (x0.2.2.2.1=-1)==decide ((x0.2.2.2.2.1.length:Int)=0))=c
 by_cases h:x1<(x0.2.2.2.2.1.length:Int)
 . rw[Zd h,decide_eq_false (p:=(x0.2.2.2.2.1.length:Int)<=x1) (by omega)]
   cases aA x0.1 0 3<;>cases aA x0.2.1 0 3<;>cases aA x0.2.2.1 0 100000<;>cases aA x0.2.2.2.1 (-1) 100000<;>rfl
 . rw[decide_eq_false h,Zd (p:=(x0.2.2.2.2.1.length:Int)<=x1) (by omega)]
   cases aA x0.1 0 3<;>cases aA x0.2.1 0 3<;>cases aA x0.2.2.1 0 100000<;>cases aA x0.2.2.2.1 (-1) 100000<;>cases b<;>cases c<;>rfl
end dR
theorem aCT{α:Type}(x0:List α)(x1:(α->Bool)×(α->Bool)):
 (letB (aB6 (x0,(x1.1,(x1.2,(((length x0:Nat):Int),((0:Int),())))))) fun v=>match v with|.inl y=>some ((),y)|.inr y=>some ((),((-1:Int),())))=some ((),(mU x1.2 x0 0,())):=by
 have hlo:=(aFu x1.2 x0 0 (by omega)).1
 by_cases h:mU x1.2 x0 0<0
 . rw[show aB6 (x0,(x1.1,(x1.2,(((x0.length:Nat):Int),((0:Int),())))))=.inr () from if_pos h,show mU x1.2 x0 0=-1 by omega];rfl
 . rw[show aB6 (x0,(x1.1,(x1.2,(((x0.length:Nat):Int),((0:Int),())))))=.inl (mU x1.2 x0 0,()) from if_neg h];rfl
theorem aD6{α:Type}(p:α->Bool)(x0:List α):decide (0<=mU p x0 0)=x0.any p:=by
 rw[Bool.eq_iff_iff,Za]
 exact(aFu p x0 0 (by omega)).2
def bF(xs:List Int)(p:(Int->Bool)×(Int->Bool)):Int:=mU p.2 xs 0
namespace bF
def pre(xs:List Int)(p:(Int->Bool)×(Int->Bool)):Bool:=xs.all p.1
def pre2:=rY (α:=Int)
def fn2:=aB6 (α:=Int)
def mA:=aFg (α:=Int)
noncomputable def dT(x1:(List Int))(x2:(Int->Bool))(x3:(Int->Bool))(x4:Int)(x5:Int):Option (((List Int)×((Int->Bool)×((Int->Bool)×aY)))⊕((Int×Unit)⊕Unit)):=
 if(decide (x5<x4))=true then
 if(decide ((0:Int)<=x5))=true then
 if(decide (x5<((length x1:Nat):Int)))=true then
 if(x2 (List.getD x1 (Int.toNat x5) (0:Int)))=true then
 if(x3 (List.getD x1 (Int.toNat x5) (0:Int)))=true then
 some (.inr (.inl (x5,())))
 else
 some (.inl (x1,(x2,(x3,(x4,((wrap .i64 (x5+(1:Int))),()))))))
 else
 none
 else
 none
 else
 none
 else
 some (.inr (.inr ()))
abbrev wf(x0:(List Int))(x1:((Int->Bool)×(Int->Bool))):Prop:=hN [(.val (.sl 0 (.int .i64)) .f),(.fn (.int .i64) .bool)] (x0,(x1,()))
noncomputable def aQ(x0:(List Int))(x1:((Int->Bool)×(Int->Bool))):Option uK:=
 if(bF.pre2 (x0,(x1.1,(x1.2,(((length x0:Nat):Int),((0:Int),()))))))=true then
  letB (bF.fn2 (x0,(x1.1,(x1.2,(((length x0:Nat):Int),((0:Int),())))))) fun v1=>
  match v1 with
  |.inl y=>
   some ((),y)
  |.inr y=>
   some ((),((-1:Int),()))
 else
  none
theorem rR(x1:List Int)(x2 x3:Int->Bool)(x4 x5:Int)(hp:pre2 (x1,(x2,(x3,(x4,(x5,())))))=true):Rounds pre2 mA fn2 (x1,(x2,(x3,(x4,(x5,()))))) (dT x1 x2 x3 x4 x5):=by
 unfold dT
 by_cases hlt:x5<x4
 . obtain⟨h1,h2,h3,h4,h5⟩:=aBf hp hlt (0:Int)
   simp only[hlt,h1,h2,h3,decide_true,if_true]
   split
   . rename_i h;exact h4 h
   . rename_i h;exact h5 h
 . simp only[hlt,decide_false,Zj,if_false]
   exact aCw hp hlt
theorem eq(x0:List Int)(x1:(Int->Bool)×(Int->Bool))(hw:wf x0 x1)(hp:pre x0 x1=true):aQ x0 x1=some ((),(bF x0 x1,())):=by
 have h1:x0.length<=maxLen:=hw.1.1
 unfold aQ
 rw[if_pos (show pre2 _=true by simp only[pre2,rY,Zb,Za];exact⟨h1,trivial,by omega,by simp,hp⟩)]
 exact aCT x0 x1
end bF
def cR(xs:List Int)(p:(Int->Bool)×(Int->Bool)):Bool:=xs.any p.2
namespace cR
def pre(xs:List Int)(p:(Int->Bool)×(Int->Bool)):Bool:=xs.all p.1
abbrev wf(x0:(List Int))(x1:((Int->Bool)×(Int->Bool))):Prop:=hN [(.val (.sl 0 (.int .i64)) .f),(.fn (.int .i64) .bool)] (x0,(x1,()))
noncomputable def aQ(x0:(List Int))(x1:((Int->Bool)×(Int->Bool))):Option mO:=
 if(bF.pre x0 x1)=true then
 letB (bF x0 x1) fun v1=>
 some ((),((decide ((0:Int)<=v1)),()))
 else
 none
theorem eq(x0:List Int)(x1:(Int->Bool)×(Int->Bool))(_:wf x0 x1)(hp:pre x0 x1=true):aQ x0 x1=some ((),(cR x0 x1,())):=by
 unfold aQ
 exact bV (show bF.pre _ _=true from hp) (congrArg (fun b=>some ((),(b,()))) (aD6 x1.2 x0))
end cR
def dC(xs:List bS)(p:(bS->Bool)×(bS->Bool)):Int:=mU p.2 xs 0
namespace dC
def pre(xs:List bS)(p:(bS->Bool)×(bS->Bool)):Bool:=xs.all p.1
def pre2:=rY (α:=bS)
def fn2:=aB6 (α:=bS)
def mA:=aFg (α:=bS)
noncomputable def dT(x1:(List bS))(x2:(bS->Bool))(x3:(bS->Bool))(x4:Int)(x5:Int):Option (((List bS)×((bS->Bool)×((bS->Bool)×aY)))⊕((Int×Unit)⊕Unit)):=
 if(decide (x5<x4))=true then
 if(decide ((0:Int)<=x5))=true then
 if(decide (x5<((length x1:Nat):Int)))=true then
 if(x2 (List.getD x1 (Int.toNat x5) pF))=true then
 if(x3 (List.getD x1 (Int.toNat x5) pF))=true then
 some (.inr (.inl (x5,())))
 else
 some (.inl (x1,(x2,(x3,(x4,((wrap .i64 (x5+(1:Int))),()))))))
 else
 none
 else
 none
 else
 none
 else
 some (.inr (.inr ()))
abbrev wf(x0:(List bS))(x1:((bS->Bool)×(bS->Bool))):Prop:=hN [(.val (.sl 0 sZ) .f),(.fn sZ .bool)] (x0,(x1,()))
noncomputable def aQ(x0:(List bS))(x1:((bS->Bool)×(bS->Bool))):Option uK:=
 if(dC.pre2 (x0,(x1.1,(x1.2,(((length x0:Nat):Int),((0:Int),()))))))=true then
  letB (dC.fn2 (x0,(x1.1,(x1.2,(((length x0:Nat):Int),((0:Int),())))))) fun v1=>
  match v1 with
  |.inl y=>
   some ((),y)
  |.inr y=>
   some ((),((-1:Int),()))
 else
  none
theorem rR(x1:List bS)(x2 x3:bS->Bool)(x4 x5:Int)(hp:pre2 (x1,(x2,(x3,(x4,(x5,())))))=true):Rounds pre2 mA fn2 (x1,(x2,(x3,(x4,(x5,()))))) (dT x1 x2 x3 x4 x5):=by
 unfold dT
 by_cases hlt:x5<x4
 . obtain⟨h1,h2,h3,h4,h5⟩:=aBf hp hlt pF
   simp only[hlt,h1,h2,h3,decide_true,if_true]
   split
   . rename_i h;exact h4 h
   . rename_i h;exact h5 h
 . simp only[hlt,decide_false,Zj,if_false]
   exact aCw hp hlt
theorem eq(x0:List bS)(x1:(bS->Bool)×(bS->Bool))(hw:wf x0 x1)(hp:pre x0 x1=true):aQ x0 x1=some ((),(dC x0 x1,())):=by
 have h1:x0.length<=maxLen:=hw.1.1
 unfold aQ
 rw[if_pos (show pre2 _=true by simp only[pre2,rY,Zb,Za];exact⟨h1,trivial,by omega,by simp,hp⟩)]
 exact aCT x0 x1
end dC
def cS(xs:List bS)(p:(bS->Bool)×(bS->Bool)):Bool:=xs.any p.2
namespace cS
def pre(xs:List bS)(p:(bS->Bool)×(bS->Bool)):Bool:=xs.all p.1
abbrev wf(x0:(List bS))(x1:((bS->Bool)×(bS->Bool))):Prop:=hN [(.val (.sl 0 sZ) .f),(.fn sZ .bool)] (x0,(x1,()))
noncomputable def aQ(x0:(List bS))(x1:((bS->Bool)×(bS->Bool))):Option mO:=
 if(dC.pre x0 x1)=true then
 letB (dC x0 x1) fun v1=>
 some ((),((decide ((0:Int)<=v1)),()))
 else
 none
theorem eq(x0:List bS)(x1:(bS->Bool)×(bS->Bool))(_:wf x0 x1)(hp:pre x0 x1=true):aQ x0 x1=some ((),(cS x0 x1,())):=by
 unfold aQ
 exact bV (show dC.pre _ _=true from hp) (congrArg (fun b=>some ((),(b,()))) (aD6 x1.2 x0))
end cS
def cN(xs:List aD)(p:(aD->Bool)×(aD->Bool)):Int:=mU p.2 xs 0
namespace cN
def pre(xs:List aD)(p:(aD->Bool)×(aD->Bool)):Bool:=xs.all p.1
def pre2:=rY (α:=aD)
def fn2:=aB6 (α:=aD)
def mA:=aFg (α:=aD)
noncomputable def dT(x1:(List aD))(x2:(aD->Bool))(x3:(aD->Bool))(x4:Int)(x5:Int):Option (((List aD)×((aD->Bool)×((aD->Bool)×aY)))⊕((Int×Unit)⊕Unit)):=
 if(decide (x5<x4))=true then
 if(decide ((0:Int)<=x5))=true then
 if(decide (x5<((length x1:Nat):Int)))=true then
 if(x2 (List.getD x1 (Int.toNat x5) oB))=true then
 if(x3 (List.getD x1 (Int.toNat x5) oB))=true then
 some (.inr (.inl (x5,())))
 else
 some (.inl (x1,(x2,(x3,(x4,((wrap .i64 (x5+(1:Int))),()))))))
 else
 none
 else
 none
 else
 none
 else
 some (.inr (.inr ()))
abbrev wf(x0:(List aD))(x1:((aD->Bool)×(aD->Bool))):Prop:=hN [(.val (.sl 0 qT) .f),(.fn qT .bool)] (x0,(x1,()))
noncomputable def aQ(x0:(List aD))(x1:((aD->Bool)×(aD->Bool))):Option uK:=
 if(cN.pre2 (x0,(x1.1,(x1.2,(((length x0:Nat):Int),((0:Int),()))))))=true then
  letB (cN.fn2 (x0,(x1.1,(x1.2,(((length x0:Nat):Int),((0:Int),())))))) fun v1=>
  match v1 with
  |.inl y=>
   some ((),y)
  |.inr y=>
   some ((),((-1:Int),()))
 else
  none
theorem rR(x1:List aD)(x2 x3:aD->Bool)(x4 x5:Int)(hp:pre2 (x1,(x2,(x3,(x4,(x5,())))))=true):Rounds pre2 mA fn2 (x1,(x2,(x3,(x4,(x5,()))))) (dT x1 x2 x3 x4 x5):=by
 unfold dT
 by_cases hlt:x5<x4
 . obtain⟨h1,h2,h3,h4,h5⟩:=aBf hp hlt oB
   simp only[hlt,h1,h2,h3,decide_true,if_true]
   split
   . rename_i h;exact h4 h
   . rename_i h;exact h5 h
 . simp only[hlt,decide_false,Zj,if_false]
   exact aCw hp hlt
theorem eq(x0:List aD)(x1:(aD->Bool)×(aD->Bool))(hw:wf x0 x1)(hp:pre x0 x1=true):aQ x0 x1=some ((),(cN x0 x1,())):=by
 have h1:x0.length<=maxLen:=hw.1.1
 unfold aQ
 rw[if_pos (show pre2 _=true by simp only[pre2,rY,Zb,Za];exact⟨h1,trivial,by omega,by simp,hp⟩)]
 exact aCT x0 x1
end cN
def cE(xs:List aD)(p:(aD->Bool)×(aD->Bool)):Bool:=xs.any p.2
namespace cE
def pre(xs:List aD)(p:(aD->Bool)×(aD->Bool)):Bool:=xs.all p.1
abbrev wf(x0:(List aD))(x1:((aD->Bool)×(aD->Bool))):Prop:=hN [(.val (.sl 0 qT) .f),(.fn qT .bool)] (x0,(x1,()))
noncomputable def aQ(x0:(List aD))(x1:((aD->Bool)×(aD->Bool))):Option mO:=
 if(cN.pre x0 x1)=true then
 letB (cN x0 x1) fun v1=>
 some ((),((decide ((0:Int)<=v1)),()))
 else
 none
theorem eq(x0:List aD)(x1:(aD->Bool)×(aD->Bool))(_:wf x0 x1)(hp:pre x0 x1=true):aQ x0 x1=some ((),(cE x0 x1,())):=by
 unfold aQ
 exact bV (show cN.pre _ _=true from hp) (congrArg (fun b=>some ((),(b,()))) (aD6 x1.2 x0))
end cE
def cG(xs:List aF)(p:(aF->Bool)×(aF->Bool)):Int:=mU p.2 xs 0
namespace cG
def pre(xs:List aF)(p:(aF->Bool)×(aF->Bool)):Bool:=xs.all p.1
def pre2:=rY (α:=aF)
def fn2:=aB6 (α:=aF)
def mA:=aFg (α:=aF)
noncomputable def dT(x1:(List aF))(x2:(aF->Bool))(x3:(aF->Bool))(x4:Int)(x5:Int):Option (((List aF)×((aF->Bool)×((aF->Bool)×aY)))⊕((Int×Unit)⊕Unit)):=
 if(decide (x5<x4))=true then
 if(decide ((0:Int)<=x5))=true then
 if(decide (x5<((length x1:Nat):Int)))=true then
 if(x2 (List.getD x1 (Int.toNat x5) ((0:Int),pQ)))=true then
 if(x3 (List.getD x1 (Int.toNat x5) ((0:Int),pQ)))=true then
 some (.inr (.inl (x5,())))
 else
 some (.inl (x1,(x2,(x3,(x4,((wrap .i64 (x5+(1:Int))),()))))))
 else
 none
 else
 none
 else
 none
 else
 some (.inr (.inr ()))
abbrev wf(x0:(List aF))(x1:((aF->Bool)×(aF->Bool))):Prop:=hN [(.val (.sl 0 aAT) .f),(.fn aAT .bool)] (x0,(x1,()))
noncomputable def aQ(x0:(List aF))(x1:((aF->Bool)×(aF->Bool))):Option uK:=
 if(cG.pre2 (x0,(x1.1,(x1.2,(((length x0:Nat):Int),((0:Int),()))))))=true then
  letB (cG.fn2 (x0,(x1.1,(x1.2,(((length x0:Nat):Int),((0:Int),())))))) fun v1=>
  match v1 with
  |.inl y=>
   some ((),y)
  |.inr y=>
   some ((),((-1:Int),()))
 else
  none
theorem rR(x1:List aF)(x2 x3:aF->Bool)(x4 x5:Int)(hp:pre2 (x1,(x2,(x3,(x4,(x5,())))))=true):Rounds pre2 mA fn2 (x1,(x2,(x3,(x4,(x5,()))))) (dT x1 x2 x3 x4 x5):=by
 unfold dT
 by_cases hlt:x5<x4
 . obtain⟨h1,h2,h3,h4,h5⟩:=aBf hp hlt ((0:Int),pQ)
   simp only[hlt,h1,h2,h3,decide_true,if_true]
   split
   . rename_i h;exact h4 h
   . rename_i h;exact h5 h
 . simp only[hlt,decide_false,Zj,if_false]
   exact aCw hp hlt
theorem eq(x0:List aF)(x1:(aF->Bool)×(aF->Bool))(hw:wf x0 x1)(hp:pre x0 x1=true):aQ x0 x1=some ((),(cG x0 x1,())):=by
 have h1:x0.length<=maxLen:=hw.1.1
 unfold aQ
 rw[if_pos (show pre2 _=true by simp only[pre2,rY,Zb,Za];exact⟨h1,trivial,by omega,by simp,hp⟩)]
 exact aCT x0 x1
end cG
def bT(xs:List aF)(p:(aF->Bool)×(aF->Bool)):Bool:=xs.any p.2
end Go.Aw.Pl
