import Derived.Test.YthkbmmjpjcehpaaGreatPkb
namespace Go.Aw.Pl
open Go.IntKind (wrap)
open List (length)
open Go Go.Aw
set_option linter.unusedVariables false
set_option linter.unusedSimpArgs false
set_option maxHeartbeats 1000000
namespace kP
def pre(g:aD)(_:Int):Bool:=gU g
abbrev wf(x0:aD)(x1:Int):Prop:=hN [(.val qT .f),(.val (.int .i64) .f)] (x0,(x1,()))
noncomputable def aQ(x0:aD)(x1:Int):Option uK:=
 if(decide (((length x0.2.1:Nat):Int)=(0:Int)))=true then
 some ((),((-1:Int),()))
 else
 if(decide (x1<(0:Int)))=true then
 some ((),((-1:Int),()))
 else
 if(!(decide (((length x0.2.1:Nat):Int)=(0:Int))))=true then
 if(decide ((0:Int)<=(Int.tmod x1 ((length x0.2.1:Nat):Int))))=true then
 if(decide ((Int.tmod x1 ((length x0.2.1:Nat):Int))<((length x0.2.1:Nat):Int)))=true then
 some ((),((List.getD x0.2.1 (Int.toNat (Int.tmod x1 ((length x0.2.1:Nat):Int))) (0:Int)),()))
 else
 none
 else
 none
 else
 none
theorem eq(x0:aD)(x1:Int)(_:wf x0 x1)(_:pre x0 x1=true):aQ x0 x1=some ((),(oR x0 x1,())):=by
 unfold aQ
 by_cases h1:(x0.2.1.length:Int)=0
 . rw[show oR x0 x1=-1 from if_pos (Or.inl h1)]
   exact bV (Zd h1) rfl
 by_cases h2:x1<0
 . rw[show oR x0 x1=-1 from if_pos (Or.inr h2)]
   exact dM (by rw[Za];exact h1) (bV (Zd h2) rfl)
 rw[show oR x0 x1=_ from if_neg (fun h=>h.elim h1 h2)]
 have t1:=Int.tmod_nonneg (x0.2.1.length:Int) (show 0<=x1 by omega)
 have t2:=Int.tmod_lt_of_pos x1 (show 0<(x0.2.1.length:Int) by omega)
 exact dM (by rw[Za];exact h1) (dM (by rw[Za];exact h2) (bV (by simp only[Bool.not_eq_true',Zv];exact h1) (bV (Zd t1) (bV (Zd t2) rfl))))
end kP
abbrev iP:aD->Int->Int->Int->Int->aD×Bool:=gZ
namespace iP
def pre(g:aD)(_ _ _ _:Int):Bool:=gU g
abbrev wf(x0:aD)(x1:Int)(x2:Int)(x3:Int)(x4:Int):Prop:=hN [(.val qT .f),(.val (.int .i64) .f),(.val (.int .i64) .f),(.val (.int .i64) .f),(.val (.int .i64) .f)] (x0,(x1,(x2,(x3,(x4,())))))
noncomputable def aQ(x0:aD)(x1:Int)(x2:Int)(x3:Int)(x4:Int):Option (Unit×(aD×(Bool×Unit))):=
 if(aT.pre x0)=true then
 if(!(decide (x2=x0.1)))=true then
 letB (aT x0) fun v1=>
 some ((),(v1,(false,())))
 else
 letB (aA x3 (0:Int) (wrap .i64 (((length x0.2.2.2.1:Nat):Int)-(1:Int)))) fun v2=>
 if(!v2)=true then
 letB (aT x0) fun v3=>
 some ((),(v3,(false,())))
 else
 if(kP.pre x0 x3)=true then
 letB (kP x0 x3) fun v4=>
 if(!(decide (v4=x1)))=true then
 letB (aT x0) fun v5=>
 some ((),(v5,(false,())))
 else
 if(decide ((0:Int)<=x3))=true then
 if(decide (x3<((length x0.2.2.2.1:Nat):Int)))=true then
 if(decide (x4<(List.getD x0.2.2.2.1 (Int.toNat x3) (0:Int))))=true then
 letB (aT x0) fun v6=>
 some ((),(v6,(false,())))
 else
 if(decide ((0:Int)<=x3))=true then
 letB (aT x0) fun v7=>
 if(decide (x3<((length v7.2.2.2.1:Nat):Int)))=true then
 some ((),((v7.1,(v7.2.1,(v7.2.2.1,((List.modify v7.2.2.2.1 (Int.toNat x3) (fun z=>x4)),v7.2.2.2.2)))),(true,())))
 else
 none
 else
 none
 else
 none
 else
 none
 else
 none
 else
 none
theorem eq(x0:aD)(x1 x2 x3 x4:Int)(_:wf x0 x1 x2 x3 x4)(hp:pre x0 x1 x2 x3 x4=true):aQ x0 x1 x2 x3 x4=some ((),((gZ x0 x1 x2 x3 x4).1,((gZ x0 x1 x2 x3 x4).2,()))):=by
 have hs:gU x0=true:=hp
 have hg:=jS.1 hs
 unfold aQ
 have no:sK x0 x1 x2 x3 x4=false->gZ x0 x1 x2 x3 x4=(x0,false):=fun h=>if_neg (by rw[h];simp)
 rw[lF (n:=(x0.2.2.2.1.length:Int)-1) (by omega) (by omega)]
 refine bV (show aT.pre x0=true from hs) ?_
 by_cases h1:x2=x0.1
 case neg=>
  rw[no (by simp[sK,h1]),decide_eq_false h1];rfl
 rw[Zd h1]
 refine dM (by decide) (eN ?_)
 cases hin:aA x3 0 ((x0.2.2.2.1.length:Int)-1)
 . rw[no (by simp[sK,hin])];rfl
 have hw:=qI hin
 refine dM (by decide) (bV (show kP.pre x0 x3=true from hs) (eN ?_))
 by_cases h2:oR x0 x3=x1
 case neg=>rw[no (by simp[sK,h2]),decide_eq_false h2];rfl
 rw[Zd h2]
 refine dM (by decide) (bV (Zd hw.1) (bV (Zd (by omega)) ?_))
 by_cases h3:x4<x0.2.2.2.1.getD x3.toNat 0
 . rw[no (by simp only[sK,decide_eq_false (p:=x0.2.2.2.1.getD x3.toNat 0<=x4) (by omega),Bool.and_false])]
   exact bV (Zd h3) rfl
 . rw[show gZ x0 x1 x2 x3 x4=_ from if_pos (by simp only[sK,Zd (p:=x0.2.2.2.1.getD x3.toNat 0<=x4) (by omega),Zd h1,Zd h2,hin];rfl)]
   exact dM (by rw[Za];exact h3) (bV (Zd hw.1) (eN (bV (Zd (show x3<(x0.2.2.2.1.length:Int) by omega)) rfl)))
end iP
abbrev gR:aD->Int->aD:=mW
theorem aEt{α:Type}{l:List α}{k:Nat}(h:k<l.length):l.take (k+1)=l.take k++[l[k]]:=List.take_succ_eq_append_getElem h
theorem aDv{α:Type}{l:List α}{k:Nat}:(l.eraseIdx k).take k=l.take k:=by
 rw[List.eraseIdx_eq_take_drop_succ]
 rcases Nat.lt_or_ge k l.length with h|h
 . rw[List.take_append_of_le_length (by rw[Zr];omega),List.take_take,Nat.min_self]
 . rw[Zt (by omega),List.append_nil,List.take_take,Nat.min_self]
theorem aDI{α:Type}{l:List α}{k:Nat}(h:k<l.length):(l.eraseIdx k).drop k=l.drop (k+1):=by
 have hl:(l.take k).length=k:=by rw[Zr];omega
 rw[List.eraseIdx_eq_take_drop_succ,List.drop_append,Zt (by omega),hl,Nat.sub_self];rfl
theorem aDZ{g:aD}{t i:Int}(h:qU g t=true):qU (mP g i) t=true:=by
 rw[tN] at h ⊢
 obtain⟨h1,h2,h3,h4,h5⟩:=h
 refine⟨zJ h1,?_,h3,h4,fun b hb=>h5 b (List.mem_of_mem_eraseIdx hb)⟩
 show(g.2.2.1.eraseIdx i.toNat).length=(g.2.1.eraseIdx i.toNat).length
 rw[List.length_eraseIdx,List.length_eraseIdx,h2]
namespace gR
abbrev S6:Type:=(Int×(Bool×(Int×aCe)))
abbrev O6:Type:=(Bool×aCe)
def pre6:S6->Bool:=fun(x1,_,x3,_,_,_,_,_,x9,_,x11,x12,x13,_)=>qU (x9,(x11,(x12,(x13,())))) x1&&(decide (0<=x3)&&decide (x3<=(x11.length:Int)))
def mu6:S6->Nat:=fun(_,_,x3,_,_,_,_,_,_,_,x11,_)=>x11.length-x3.toNat
def fn6:S6->O6:=fun(x1,x2,x3,x4,x5,x6,x7,x8,x9,x10,x11,x12,x13,_)=>(x2||sU x1 (x12.drop x3.toNat),(x4,(x5,(x6,(x7,(x8,(x9,(x10,(x11.take x3.toNat++rU x1 (x11.drop x3.toNat) (x12.drop x3.toNat),(x12.take x3.toNat++rW x1 (x12.drop x3.toNat),(x13,())))))))))))
noncomputable def aE2(x1:Int)(x2:Bool)(x3:Int)(x4:Int)(x5:Unit)(x6:(List Int))(x7:(List Int))(x8:(List Int))(x9:Int)(x10:Unit)(x11:(List Int))(x12:(List Int))(x13:(List Int)):Option ((Int×(Bool×(Int×aCe)))⊕(Bool×aCe)):=
 if(decide (x3<((length x11:Nat):Int)))=true then
 if(decide (x3<((length x12:Nat):Int)))=true then
 if(decide ((0:Int)<=x3))=true then
 if(decide (x3<((length x12:Nat):Int)))=true then
 if(decide ((List.getD x12 (Int.toNat x3) (0:Int))<(wrap .i64 (x1-(50:Int)))))=true then
 if(iA.pre (x9,(x11,(x12,(x13,x10)))) x3)=true then
 letB (iA (x9,(x11,(x12,(x13,x10)))) x3) fun v1=>
 some (.inl (x1,(true,(x3,(x4,(x5,(x6,(x7,(x8,(v1.1,(v1.2.2.2.2,v1.2)))))))))))
 else
 none
 else
 some (.inl (x1,(x2,((wrap .i64 (x3+(1:Int))),(x4,(x5,(x6,(x7,(x8,(x9,(x10,(x11,(x12,(x13,()))))))))))))))
 else
 none
 else
 none
 else
 some (.inl (x1,(x2,((wrap .i64 (x3+(1:Int))),(x4,(x5,(x6,(x7,(x8,(x9,(x10,(x11,(x12,(x13,()))))))))))))))
 else
 some (.inr (x2,(x4,(x5,(x6,(x7,(x8,(x9,(x10,(x11,(x12,(x13,()))))))))))))
abbrev wf(x0:aD)(x1:Int):Prop:=hN [(.val qT .f),(.val (.int .i64) .f)] (x0,(x1,()))
noncomputable def aQ(x0:aD)(x1:Int):Option aDo:=
 if(aT.pre x0)=true then
 if(decide (x1<(-9223372036854775758:Int)))=true then
 letB (aT x0) fun v1=>
 some ((),(v1,()))
 else
 letB (aT x0) fun v2=>
 if(gR.pre6 (x1,(false,((0:Int),((0:Int),((),(([]:List Int),(([]:List Int),(([]:List Int),(v2.1,(v2.2.2.2.2,v2.2)))))))))))=true then
 letB (gR.fn6 (x1,(false,((0:Int),((0:Int),((),(([]:List Int),(([]:List Int),(([]:List Int),(v2.1,(v2.2.2.2.2,v2.2))))))))))) fun v3=>
 if v3.1=true then
 if(fS.pre (v3.2.2.2.2.2.2.1,(v3.2.2.2.2.2.2.2.2.1,(v3.2.2.2.2.2.2.2.2.2.1,(v3.2.2.2.2.2.2.2.2.2.2.1,v3.2.2.2.2.2.2.2.1)))))=true then
 letB (fS (v3.2.2.2.2.2.2.1,(v3.2.2.2.2.2.2.2.2.1,(v3.2.2.2.2.2.2.2.2.2.1,(v3.2.2.2.2.2.2.2.2.2.2.1,v3.2.2.2.2.2.2.2.1))))) fun v4=>
 some ((),(v4,()))
 else
 none
 else
 some ((),((v3.2.2.2.2.2.2.1,(v3.2.2.2.2.2.2.2.2.1,(v3.2.2.2.2.2.2.2.2.2.1,(v3.2.2.2.2.2.2.2.2.2.2.1,v3.2.2.2.2.2.2.2.1)))),()))
 else
 none
 else
 none
theorem ok6(x1:Int)(x2:Bool)(x3 x4:Int)(x5:Unit)(x6 x7 x8:List Int)(x9:Int)(x10:Unit)(x11 x12 x13:List Int)(hp:pre6 (x1,(x2,(x3,(x4,(x5,(x6,(x7,(x8,(x9,(x10,(x11,(x12,(x13,())))))))))))))=true):
 Rounds pre6 mu6 fn6 (x1,(x2,(x3,(x4,(x5,(x6,(x7,(x8,(x9,(x10,(x11,(x12,(x13,()))))))))))))) (aE2 x1 x2 x3 x4 x5 x6 x7 x8 x9 x10 x11 x12 x13):=by
 simp only[pre6,Zb,Za] at hp
 obtain⟨ht,h1,h2⟩:=hp
 obtain⟨hs,hlen,t0,t1,hb⟩:=tN.1 ht
 have hg:=jS.1 hs
 simp only[] at hlen hb hg
 unfold aE2
 by_cases a1:x3<(x11.length:Int)
 . have hn:x3.toNat<x11.length:=by omega
   have hn2:x3.toNat<x12.length:=by omega
   have e1:=Zn hn
   have e2:=Zn hn2
   have a2:x3<(x12.length:Int):=by omega
   refine eQ (Zd a1) (eQ (Zd a2) (eQ (Zd h1) (eQ (Zd a2) ?_)))
   rw[cX hn2,lF (n:=x1-50) (by omega) (by omega),lF (n:=x3+1) (by omega) (by omega)]
   by_cases c:x12[x3.toNat]<x1-50
   . refine eQ (Zd c) (eQ (show iA.pre _ _=true by simp only[iA.pre,Zb,Za];exact⟨hs,h1,a1⟩) ⟨?_,?_,?_⟩)
     . show(qU (mP (x9,(x11,(x12,(x13,())))) x3) x1&&(decide (0<=x3)&&decide (x3<=((x11.eraseIdx x3.toNat).length:Int))))=true
       simp only[Zb,Za]
       exact⟨aDZ ht,h1,by rw[List.length_eraseIdx,if_pos hn];omega⟩
     . show(x11.eraseIdx x3.toNat).length-x3.toNat<x11.length-x3.toNat
       rw[List.length_eraseIdx,if_pos hn];omega
     . simp only[fn6,mP]
       rw[aDv,aDv,aDI hn,aDI hn2,e1,e2]
       simp only[rU,rW,sU,List.any_cons,c,if_true,decide_true,Bool.true_or,Bool.or_true]
   . refine jJ (by rw[Za];exact c) ⟨?_,by simp only[mu6];omega,?_⟩
     . simp only[pre6,Zb,Za]
       exact⟨ht,by omega,by omega⟩
     . simp only[fn6]
       rw[show(x3+1).toNat=x3.toNat+1 by omega,aEt hn,aEt hn2,e1,e2]
       simp only[rU,rW,sU,List.any_cons,c,if_false,decide_false,Bool.false_or,Zk,List.singleton_append]
 . refine jJ (by rw[Za];exact a1) ?_
   have e1:x11.drop x3.toNat=[]:=Zt (by omega)
   have e2:x12.drop x3.toNat=[]:=Zt (by omega)
   have e3:x11.take x3.toNat=x11:=List.take_of_length_le (by omega)
   have e4:x12.take x3.toNat=x12:=List.take_of_length_le (by omega)
   show _=fn6 _
   simp only[fn6,e1,e2,e3,e4,rU,rW,sU,List.any_nil,Bool.or_false,List.append_nil]
def pre(g:aD)(t:Int):Bool:=qU g t
theorem eq(x0:aD)(x1:Int)(_:wf x0 x1)(hp:pre x0 x1=true):aQ x0 x1=some ((),(mW x0 x1,())):=by
 have ht:qU x0 x1=true:=hp
 obtain⟨hs,hlen,t0,t1,hb⟩:=tN.1 ht
 have hf1:fn6 (x1,(false,((0:Int),((0:Int),((),(([]:List Int),(([]:List Int),(([]:List Int),(x0.1,((),(x0.2.1,(x0.2.2.1,(x0.2.2.2.1,())))))))))))))=(sU x1 x0.2.2.1,((0:Int),((),(([]:List Int),(([]:List Int),(([]:List Int),(x0.1,((),(rU x1 x0.2.1 x0.2.2.1,(rW x1 x0.2.2.1,(x0.2.2.2.1,()))))))))))):=by
  simp only[fn6,Int.toNat_zero,List.drop_zero,List.take_zero,List.nil_append,Bool.false_or]
 have hf:fn6 (x1,(false,((0:Int),((0:Int),((),(([]:List Int),(([]:List Int),(([]:List Int),(x0.1,(x0.2.2.2.2,x0.2))))))))))=_:=hf1
 unfold aQ
 refine bV (show aT.pre x0=true from hs) (dM (by rw[Za];omega) (eN ?_))
 rw[show aT x0=x0 from rfl]
 refine bV (show pre6 _=true by simp only[pre6,Zb,Za];exact⟨ht,by omega,by omega⟩) (eN ?_)
 rw[hf]
 unfold mW
 cases hk:sU x1 x0.2.2.1
 . rfl
 . exact bV rfl (bV (Zd rfl) rfl)
end gR
abbrev fZ:List aC->Int->Int->aC:=kL
namespace fZ
abbrev S2:Type:=(Int×(Int×((List aC)×(Int×(Int×aC6)))))
abbrev O2:Type:=(aC6⊕(Int×(Int×aC6)))
def pre2:S2->Bool:=fun(_,_,x3,x4,x5,_)=>xR x3&&(decide (x4=(x3.length:Int))&&(decide (0<=x5)&&decide (x5<=(x3.length:Int))))
def mA:S2->Nat:=fun(_,_,x3,_,x5,_)=>x3.length-x5.toNat
def fn2:S2->O2:=fun(x1,x2,x3,_,x5,x6,x7,x8,x9,x10,x11,_)=>match(x3.drop x5.toNat).find? (lT x1 x2) with
 |some m=>.inl (m.1,(m.2.1,(m.2.2.1,(m.2.2.2.1,((),(m.2.2.2.2.1,()))))))
 |none=>.inr (x1,(x2,(x6,(x7,(x8,(x9,(x10,(x11,()))))))))
noncomputable def dT(x1:Int)(x2:Int)(x3:(List aC))(x4:Int)(x5:Int)(x6:Int)(x7:Int)(x8:Int)(x9:Int)(x10:Unit)(x11:(List aY)):Option ((Int×(Int×((List aC)×(Int×(Int×aC6)))))⊕(aC6⊕(Int×(Int×aC6)))):=
 if(decide (x5<x4))=true then
 if(decide ((0:Int)<=x5))=true then
 if(decide (x5<((length x3:Nat):Int)))=true then
 if(decide ((List.getD x3 (Int.toNat x5) jY).1=x1))=true then
 if(decide ((List.getD x3 (Int.toNat x5) jY).2.1=x2))=true then
 if(aS.pre (List.getD x3 (Int.toNat x5) jY))=true then
 letB (aS (List.getD x3 (Int.toNat x5) jY)) fun v1=>
 some (.inr (.inl (v1.1,(v1.2.1,(v1.2.2.1,(v1.2.2.2.1,(v1.2.2.2.2.2,v1.2.2.2.2)))))))
 else
 none
 else
 some (.inl (x1,(x2,(x3,(x4,((wrap .i64 (x5+(1:Int))),(x6,(x7,(x8,(x9,(x10,(x11,()))))))))))))
 else
 some (.inl (x1,(x2,(x3,(x4,((wrap .i64 (x5+(1:Int))),(x6,(x7,(x8,(x9,(x10,(x11,()))))))))))))
 else
 none
 else
 none
 else
 some (.inr (.inr (x1,(x2,(x6,(x7,(x8,(x9,(x10,(x11,()))))))))))
abbrev wf(x0:(List aC))(x1:Int)(x2:Int):Prop:=hN [(.val (.sl 0 vJ) .f),(.val (.int .i64) .f),(.val (.int .i64) .f)] (x0,(x1,(x2,())))
noncomputable def aQ(x0:(List aC))(x1:Int)(x2:Int):Option (Unit×(aC×Unit)):=
 if(fZ.pre2 (x1,(x2,(x0,(((length x0:Nat):Int),aJ4)))))=true then
  letB (fZ.fn2 (x1,(x2,(x0,(((length x0:Nat):Int),aJ4))))) fun v1=>
  match v1 with
  |.inl y=>
   some ((),((y.1,(y.2.1,(y.2.2.1,(y.2.2.2.1,(y.2.2.2.2.2.1,y.2.2.2.2.1))))),()))
  |.inr y=>
   some ((),((y.1,(y.2.1,((0:Int),((-1:Int),(([]:List aY),()))))),()))
 else
  none
theorem rR(x1 x2:Int)(x3:List aC)(x4 x5 x6 x7 x8 x9:Int)(x10:Unit)(x11:List aY)(hp:pre2 (x1,(x2,(x3,(x4,(x5,(x6,(x7,(x8,(x9,(x10,(x11,())))))))))))=true):
 Rounds pre2 mA fn2 (x1,(x2,(x3,(x4,(x5,(x6,(x7,(x8,(x9,(x10,(x11,()))))))))))) (dT x1 x2 x3 x4 x5 x6 x7 x8 x9 x10 x11):=by
 simp only[pre2,Zb,Za] at hp
 obtain⟨hs,rfl,h1,h2⟩:=hp
 have hm:=sV.1 hs
 unfold dT
 by_cases hlt:x5<(x3.length:Int)
 . have hn:x5.toNat<x3.length:=by omega
   have e1:=Zn hn
   rw[cX hn,lF (n:=x5+1) (by omega) (by omega)]
   have nxt:lT x1 x2 x3[x5.toNat]=false->Rounds pre2 mA fn2 (x1,(x2,(x3,((x3.length:Int),(x5,(x6,(x7,(x8,(x9,(x10,(x11,()))))))))))) (some (.inl (x1,(x2,(x3,((x3.length:Int),(x5+1,(x6,(x7,(x8,(x9,(x10,(x11,()))))))))))))):=by
    intro hk
    refine⟨?_,by simp only[mA];omega,?_⟩
    . simp only[pre2,Zb,Za];exact⟨hs,trivial,by omega,by omega⟩
    . simp only[fn2]
      rw[e1,List.find?_cons,hk,show(x5+1).toNat=x5.toNat+1 by omega]
   refine eQ (Zd hlt) (eQ (Zd h1) (eQ (Zd hlt) ?_))
   by_cases a:x3[x5.toNat].1=x1
   . refine eQ (Zd a) ?_
     by_cases b:x3[x5.toNat].2.1=x2
     . refine eQ (Zd b) (eQ (show aS.pre _=true from bW.2 (hm.2 _ (List.getElem_mem hn))) ?_)
       show _=fn2 _
       simp only[fn2]
       rw[e1,List.find?_cons,show lT x1 x2 x3[x5.toNat]=true by simp[lT,a,b]]
       rfl
     . exact jJ (by rw[Za];exact b) (nxt (by simp[lT,b]))
   . exact jJ (by rw[Za];exact a) (nxt (by simp[lT,a]))
 . refine jJ (by rw[Za];exact hlt) ?_
   show _=fn2 _
   simp only[fn2]
   rw[Zt (by omega)];rfl
def pre(xs:List aC)(_ _:Int):Bool:=xR xs
theorem eq(x0:List aC)(x1 x2:Int)(_:wf x0 x1 x2)(hp:pre x0 x1 x2=true):aQ x0 x1 x2=some ((),(kL x0 x1 x2,())):=by
 have hs:xR x0=true:=hp
 unfold aQ kL
 refine bV (show pre2 _=true by simp only[pre2,Zb,Za];exact⟨hs,trivial,by omega,by omega⟩) (eN ?_)
 simp only[fn2,Int.toNat_zero,List.drop_zero]
 cases x0.find? (lT x1 x2)<;>rfl
end fZ
abbrev dE:aC->Int->Int->Int×Int:=dA
namespace dE
abbrev S12:Type:=(Int×((List aY)×aY))
abbrev O12:Type:=(aY⊕Unit)
def pre12:S12->Bool:=fun(_,x2,x3,x4,_)=>cH x2&&(decide (x3=(x2.length:Int))&&(decide (0<=x4)&&decide (x4<=(x2.length:Int))))
def aGY:S12->Nat:=fun(_,x2,_,x4,_)=>x2.length-x4.toNat
def fn12:S12->O12:=fun(x1,x2,_,x4,_)=>match(x2.drop x4.toNat).find? (fun x=>decide (x.1=x1)) with
 |some x=>.inl (1,x.2)
 |none=>.inr ()
noncomputable def aCL(x1:Int)(x2:(List aY))(x3:Int)(x4:Int):Option ((Int×((List aY)×aY))⊕(aY⊕Unit)):=
 if(decide (x4<x3))=true then
 if(decide ((0:Int)<=x4))=true then
 if(decide (x4<((length x2:Nat):Int)))=true then
 if(decide ((List.getD x2 (Int.toNat x4) nW).1=x1))=true then
 some (.inr (.inl ((1:Int),(List.getD x2 (Int.toNat x4) nW).2)))
 else
 some (.inl (x1,(x2,(x3,((wrap .i64 (x4+(1:Int))),())))))
 else
 none
 else
 none
 else
 some (.inr (.inr ()))
abbrev wf(x0:aC)(x1:Int)(x2:Int):Prop:=hN [(.val vJ .f),(.val (.int .i64) .f),(.val (.int .i64) .f)] (x0,(x1,(x2,())))
noncomputable def aQ(x0:aC)(x1:Int)(x2:Int):Option (Unit×aY):=
 if(decide (x1<x0.2.2.1))=true then
  some ((),((4:Int),((0:Int),())))
 else
  if(decide (x0.2.2.1<x1))=true then
   if(decide (x2=(0:Int)))=true then
    some ((),nW)
   else
    if(decide (x0.2.2.1<x1))=true then
     some ((),((3:Int),((0:Int),())))
    else
     if(decide (x0.2.2.2.1<x2))=true then
      if(decide ((wrap .i64 (x2-(1:Int)))=x0.2.2.2.1))=true then
       some ((),nW)
      else
       if(decide (x0.2.2.2.1<x2))=true then
        some ((),((3:Int),((0:Int),())))
       else
        if(dE.pre12 (x2,(x0.2.2.2.2.1,(((length x0.2.2.2.2.1:Nat):Int),((0:Int),())))))=true then
         letB (dE.fn12 (x2,(x0.2.2.2.2.1,(((length x0.2.2.2.2.1:Nat):Int),((0:Int),()))))) fun v1=>
         match v1 with
         |.inl y=>
          some ((),y)
         |.inr y=>
          some ((),((2:Int),((0:Int),())))
        else
         none
     else
      if(decide (x0.2.2.2.1<x2))=true then
       some ((),((3:Int),((0:Int),())))
      else
       if(dE.pre12 (x2,(x0.2.2.2.2.1,(((length x0.2.2.2.2.1:Nat):Int),((0:Int),())))))=true then
        letB (dE.fn12 (x2,(x0.2.2.2.2.1,(((length x0.2.2.2.2.1:Nat):Int),((0:Int),()))))) fun v2=>
        match v2 with
        |.inl y=>
         some ((),y)
        |.inr y=>
         some ((),((2:Int),((0:Int),())))
       else
        none
  else
   if(decide (x0.2.2.1<x1))=true then
    some ((),((3:Int),((0:Int),())))
   else
    if(decide (x0.2.2.2.1<x2))=true then
     if(decide ((wrap .i64 (x2-(1:Int)))=x0.2.2.2.1))=true then
      some ((),nW)
     else
      if(decide (x0.2.2.2.1<x2))=true then
       some ((),((3:Int),((0:Int),())))
      else
       if(dE.pre12 (x2,(x0.2.2.2.2.1,(((length x0.2.2.2.2.1:Nat):Int),((0:Int),())))))=true then
        letB (dE.fn12 (x2,(x0.2.2.2.2.1,(((length x0.2.2.2.2.1:Nat):Int),((0:Int),()))))) fun v3=>
        match v3 with
        |.inl y=>
         some ((),y)
        |.inr y=>
         some ((),((2:Int),((0:Int),())))
       else
        none
    else
     if(decide (x0.2.2.2.1<x2))=true then
      some ((),((3:Int),((0:Int),())))
     else
      if(dE.pre12 (x2,(x0.2.2.2.2.1,(((length x0.2.2.2.2.1:Nat):Int),((0:Int),())))))=true then
       letB (dE.fn12 (x2,(x0.2.2.2.2.1,(((length x0.2.2.2.2.1:Nat):Int),((0:Int),()))))) fun v4=>
       match v4 with
       |.inl y=>
        some ((),y)
       |.inr y=>
        some ((),((2:Int),((0:Int),())))
      else
       none
theorem aL9(x1:Int)(x2:List aY)(x3 x4:Int)(hp:pre12 (x1,(x2,(x3,(x4,()))))=true):Rounds pre12 aGY fn12 (x1,(x2,(x3,(x4,())))) (aCL x1 x2 x3 x4):=by
 simp only[pre12,Zb,Za] at hp
 obtain⟨hs,rfl,h1,h2⟩:=hp
 have hs':=bW.1 hs
 unfold aCL
 by_cases hlt:x4<(x2.length:Int)
 . have hn:x4.toNat<x2.length:=by omega
   have e1:=Zn hn
   refine eQ (Zd hlt) (eQ (Zd h1) (eQ (Zd hlt) ?_))
   rw[cX hn,lF (n:=x4+1) (by omega) (by omega)]
   by_cases c:x2[x4.toNat].1=x1
   . refine eQ (Zd c) ?_
     simp only[Rounds,fn12]
     rw[e1,List.find?_cons,Zd c]
   . refine jJ (by rw[Za];exact c) ⟨?_,by simp only[aGY];omega,?_⟩
     . simp only[pre12,Zb,Za];exact⟨hs,trivial,by omega,by omega⟩
     . simp only[fn12]
       rw[e1,List.find?_cons,decide_eq_false c,show(x4+1).toNat=x4.toNat+1 by omega]
 . refine jJ (by rw[Za];exact hlt) ?_
   simp only[Rounds,fn12]
   rw[Zt (by omega)];rfl
def pre(m:aC)(_ _:Int):Bool:=cH m.2.2.2.2.1
theorem eq(x0:aC)(x1 x2:Int)(_:wf x0 x1 x2)(hp:pre x0 x1 x2=true):aQ x0 x1 x2=some ((),((dA x0 x1 x2).1,((dA x0 x1 x2).2,()))):=by
 have hs:cH x0.2.2.2.2.1=true:=hp
 have q:pre12 (x2,(x0.2.2.2.2.1,((x0.2.2.2.2.1.length:Int),((0:Int),()))))=true:=by
  simp only[pre12,Zb,Za];exact⟨hs,trivial,by omega,by omega⟩
 unfold aQ dA
 by_cases c1:x1<x0.2.2.1
 . rw[if_pos c1];exact bV (Zd c1) rfl
 rw[if_neg c1]
 refine dM (by rw[Za];exact c1) ?_
 by_cases c2:x0.2.2.1<x1
 . rw[if_pos c2]
   refine bV (Zd c2) ?_
   by_cases c3:x2=0
   . rw[if_pos c3];exact bV (Zd c3) rfl
   . rw[if_neg c3];exact dM (by rw[Za];exact c3) (bV (Zd c2) rfl)
 rw[if_neg c2]
 refine dM (by rw[Za];exact c2) (dM (by rw[Za];exact c2) ?_)
 by_cases c4:x0.2.2.2.1<x2
 . rw[if_pos c4]
   refine bV (Zd c4) ?_
   by_cases c5:wrap .i64 (x2-1)=x0.2.2.2.1
   . rw[if_pos c5];exact bV (Zd c5) rfl
   . rw[if_neg c5];exact dM (by rw[Za];exact c5) (bV (Zd c4) rfl)
 rw[if_neg c4]
 refine dM (by rw[Za];exact c4) (dM (by rw[Za];exact c4) (bV q (eN ?_)))
 simp only[fn12,Int.toNat_zero,List.drop_zero]
 cases x0.2.2.2.2.1.find? (fun x=>decide (x.1=x2))<;>rfl
end dE
abbrev jU:bS->Int->aP×Int:=lH
namespace jU
abbrev S4:Type:=(Int×((List aP)×(Int×(Int×(aP×Unit)))))
abbrev O4:Type:=((Int×(aP×Unit))⊕(aP×Unit))
def pre4:S4->Bool:=fun(_,x2,x3,x4,_)=>cH x2&&(decide (x3=(x2.length:Int))&&(decide (0<=x4)&&decide (x4<=(x2.length:Int))))
def lN:S4->Nat:=fun(_,x2,_,x4,_)=>x2.length-x4.toNat
def fn4:S4->O4:=fun(x1,x2,_,x4,x5,_)=>match(x2.drop x4.toNat).find? (fun it=>decide (x1<=it.1)) with
 |some it=>.inl (0,(it,()))
 |none=>.inr (x5,())
noncomputable def eA(x1:Int)(x2:(List aP))(x3:Int)(x4:Int)(x5:aP):Option ((Int×((List aP)×(Int×(Int×(aP×Unit)))))⊕((Int×(aP×Unit))⊕(aP×Unit))):=
 if(decide (x4<x3))=true then
 if(decide ((0:Int)<=x4))=true then
 if(decide (x4<((length x2:Nat):Int)))=true then
 if(decide (x1<=(List.getD x2 (Int.toNat x4) lL).1))=true then
 some (.inr (.inl ((0:Int),((List.getD x2 (Int.toNat x4) lL),()))))
 else
 some (.inl (x1,(x2,(x3,((wrap .i64 (x4+(1:Int))),(x5,()))))))
 else
 none
 else
 none
 else
 some (.inr (.inr (x5,())))
abbrev wf(x0:bS)(x1:Int):Prop:=hN [(.val sZ .f),(.val (.int .i64) .f)] (x0,(x1,()))
noncomputable def aQ(x0:bS)(x1:Int):Option (Unit×(aP×(Int×Unit))):=
 if(decide (x1<x0.1))=true then
  some ((),(lL,((1:Int),())))
 else
  if(jU.pre4 (x1,(x0.2.2.1,(((length x0.2.2.1:Nat):Int),((0:Int),(lL,()))))))=true then
   letB (jU.fn4 (x1,(x0.2.2.1,(((length x0.2.2.1:Nat):Int),((0:Int),(lL,())))))) fun v1=>
   match v1 with
   |.inl y=>
    some ((),(y.2.1,(y.1,())))
   |.inr y=>
    some ((),(lL,((2:Int),())))
  else
   none
theorem uM(x1:Int)(x2:List aP)(x3 x4:Int)(x5:aP)(hp:pre4 (x1,(x2,(x3,(x4,(x5,())))))=true):Rounds pre4 lN fn4 (x1,(x2,(x3,(x4,(x5,()))))) (eA x1 x2 x3 x4 x5):=by
 simp only[pre4,Zb,Za] at hp
 obtain⟨hs,rfl,h1,h2⟩:=hp
 have hs':=bW.1 hs
 unfold eA
 by_cases hlt:x4<(x2.length:Int)
 . have hn:x4.toNat<x2.length:=by omega
   have e1:=Zn hn
   refine eQ (Zd hlt) (eQ (Zd h1) (eQ (Zd hlt) ?_))
   rw[cX hn,lF (n:=x4+1) (by omega) (by omega)]
   by_cases c:x1<=x2[x4.toNat].1
   . refine eQ (Zd c) ?_
     simp only[Rounds,fn4]
     rw[e1,List.find?_cons,Zd c]
   . refine jJ (by rw[Za];exact c) ⟨?_,by simp only[lN];omega,?_⟩
     . simp only[pre4,Zb,Za];exact⟨hs,trivial,by omega,by omega⟩
     . simp only[fn4]
       rw[e1,List.find?_cons,decide_eq_false c,show(x4+1).toNat=x4.toNat+1 by omega]
 . refine jJ (by rw[Za];exact hlt) ?_
   simp only[Rounds,fn4]
   rw[Zt (by omega)];rfl
def pre(x:bS)(_:Int):Bool:=cH x.2.2.1
theorem eq(x0:bS)(x1:Int)(_:wf x0 x1)(hp:pre x0 x1=true):aQ x0 x1=some ((),((lH x0 x1).1,((lH x0 x1).2,()))):=by
 have hs:cH x0.2.2.1=true:=hp
 unfold aQ lH
 by_cases c1:x1<x0.1
 . rw[if_pos c1];exact bV (Zd c1) rfl
 rw[if_neg c1]
 refine dM (by rw[Za];exact c1) (bV (show pre4 _=true by simp only[pre4,Zb,Za];exact⟨hs,trivial,by omega,by omega⟩) (eN ?_))
 simp only[fn4,Int.toNat_zero,List.drop_zero]
 cases x0.2.2.1.find? (fun it=>decide (x1<=it.1))<;>rfl
end jU
abbrev lB:bS->List UInt8->List UInt8->Int->Int->bS×(Int×Bool):=oE
namespace lB
def pre(x:bS)(_ _:List UInt8)(_ _:Int):Bool:=aFR x.2.2.1
abbrev wf(x0:bS)(x1:(List UInt8))(x2:(List UInt8))(x3:Int)(x4:Int):Prop:=hN [(.val sZ .f),(.val .str .f),(.val .str .f),(.val (.int .i64) .f),(.val (.int .i64) .f)] (x0,(x1,(x2,(x3,(x4,())))))
noncomputable def aQ(x0:bS)(x1:(List UInt8))(x2:(List UInt8))(x3:Int)(x4:Int):Option (Unit×(bS×(Int×(Bool×Unit)))):=
 if(bC.pre x0)=true then
 letB (bC x0) fun v1=>
 if(decide (length v1.2.2.1+length ((x0.2.1,(x1,(x2,(x3,(x4,())))))::([]:List aP))<=hY))=true then
 if(dW.pre x0)=true then
 letB (fN x0) fun v2=>
 if(!v2)=true then
 if(bC.pre x0)=true then
 some ((),(v1,((0:Int),(false,()))))
 else
 none
 else
 if(dW.pre (v1.1,((wrap .i64 (v1.2.1+(1:Int))),((List.append v1.2.2.1 ((x0.2.1,(x1,(x2,(x3,(x4,())))))::([]:List aP))),v1.2.2.2))))=true then
 letB (fN (v1.1,((wrap .i64 (v1.2.1+(1:Int))),((List.append v1.2.2.1 ((x0.2.1,(x1,(x2,(x3,(x4,())))))::([]:List aP))),v1.2.2.2)))) fun v3=>
 if(!v3)=true then
 if(bC.pre x0)=true then
 some ((),(v1,((0:Int),(false,()))))
 else
 none
 else
 some ((),((v1.1,((wrap .i64 (v1.2.1+(1:Int))),((List.append v1.2.2.1 ((x0.2.1,(x1,(x2,(x3,(x4,())))))::([]:List aP))),v1.2.2.2))),(x0.2.1,(true,()))))
 else
 none
 else
 none
 else
 none
 else
 none
theorem eq(x0:bS)(x1 x2:List UInt8)(x3 x4:Int)(_:wf x0 x1 x2 x3 x4)(hp:pre x0 x1 x2 x3 x4=true):aQ x0 x1 x2 x3 x4=some ((),((oE x0 x1 x2 x3 x4).1,((oE x0 x1 x2 x3 x4).2.1,((oE x0 x1 x2 x3 x4).2.2,())))):=by
 have hs:aFR x0.2.2.1=true:=hp
 have hs':=aAP.1 hs
 have h0:=aCx hs
 have hn:dW.pre (newRow x0 x1 x2 x3 x4)=true:=by
  show cH (List.append x0.2.2.1 _)=true
  rw[bW,List.append_eq,Zf,Zg,Zh];omega
 unfold aQ
 refine bV (show bC.pre x0=true from h0) (eN ?_)
 rw[show bC x0=x0 from rfl]
 refine bV (by simp only[Za,Zg,Zh,hY];exact Nat.le_trans (Nat.add_le_add_right hs' 1) (by decide)) (bV (show dW.pre x0=true from h0) (eN ?_))
 cases c:fN x0
 . rw[show oE x0 x1 x2 x3 x4=(x0,((0:Int),false)) from if_neg (by rw[c];simp)]
   exact bV rfl (bV (show bC.pre x0=true from h0) rfl)
 refine dM (by decide) (bV hn (eN ?_))
 show(if(!fN (newRow x0 x1 x2 x3 x4))=true then _ else _)=_
 cases d:fN (newRow x0 x1 x2 x3 x4)
 . rw[show oE x0 x1 x2 x3 x4=(x0,((0:Int),false)) from if_neg (by rw[c,d];simp)]
   exact bV rfl (bV (show bC.pre x0=true from h0) rfl)
 . rw[show oE x0 x1 x2 x3 x4=_ from if_pos (by rw[c,d];rfl)]
   rfl
end lB
def aHa(n w:Int):Int:=if decide (wrap .i64 (n-(if decide (w<(0:Int))=true then(0:Int) else w))<(0:Int))=true then(0:Int) else wrap .i64 (n-(if decide (w<(0:Int))=true then(0:Int) else w))
theorem aJE{l:List aY}{w:Int}(hl:l.length<=16777217)(hw:-9223372036854775808<=w/\w<=9223372036854775807):
 0<=aHa (l.length:Int) w/\aHa (l.length:Int) w<=(l.length:Int)/\List.append ([]:List aY) (aX (aHa (l.length:Int) w).toNat ((l.length:Int)).toNat l)=pK w l:=by
 have e:(if decide (w<(0:Int))=true then(0:Int) else w)=qS w 0:=by
  unfold qS
  by_cases h:w<0
  . rw[if_pos (Zd h),if_neg (by omega)]
  . rw[if_neg (by rw[Za];exact h)]
    by_cases h2:0<w
    . rw[if_pos h2]
    . rw[if_neg h2];omega
 have h0:0<=qS w 0/\qS w 0<=9223372036854775807:=by unfold qS;split<;>omega
 have hc:aHa (l.length:Int) w=if(l.length:Int)-qS w 0<0 then 0 else(l.length:Int)-qS w 0:=by
  unfold aHa
  rw[e,lF (n:=(l.length:Int)-qS w 0) (by omega) (by omega)]
  simp only[Za]
 have h1:0<=aHa (l.length:Int) w/\aHa (l.length:Int) w<=(l.length:Int):=by rw[hc];split<;>omega
 refine⟨h1.1,h1.2,?_⟩
 rw[aAm h1.1]
 unfold pK
 congr 1
 rw[hc]
 split<;>omega
abbrev kE:aC->Int->Int->Int->Int->aC:=jC
namespace kE
def pre(m:aC)(_ _ _ _:Int):Bool:=cH m.2.2.2.2.1
abbrev wf(x0:aC)(x1:Int)(x2:Int)(x3:Int)(x4:Int):Prop:=hN [(.val vJ .f),(.val (.int .i64) .f),(.val (.int .i64) .f),(.val (.int .i64) .f),(.val (.int .i64) .f)] (x0,(x1,(x2,(x3,(x4,())))))
noncomputable def aQ(x0:aC)(x1:Int)(x2:Int)(x3:Int)(x4:Int):Option (Unit×(aC×Unit)):=
 if(aS.pre x0)=true then
 if(dE.pre x0 x2 x3)=true then
 letB (dA x0 x2 x3) fun v1=>
 if(!(decide (v1.1=(0:Int))))=true then
 letB (aS x0) fun v2=>
 some ((),(v2,()))
 else
 if(decide (x0.2.2.1<x2))=true then
 if(decide (length ([]:List aY)+length ((x3,(x4,()))::([]:List aY))<=hY))=true then
 if(decide ((0:Int)<=(if(decide ((wrap .i64 (((length (List.append ([]:List aY) ((x3,(x4,()))::([]:List aY))):Nat):Int)-(if(decide (x1<(0:Int)))=true then(0:Int) else x1)))<(0:Int)))=true then(0:Int) else(wrap .i64 (((length (List.append ([]:List aY) ((x3,(x4,()))::([]:List aY))):Nat):Int)-(if(decide (x1<(0:Int)))=true then(0:Int) else x1))))))=true then
 if(decide ((if(decide ((wrap .i64 (((length (List.append ([]:List aY) ((x3,(x4,()))::([]:List aY))):Nat):Int)-(if(decide (x1<(0:Int)))=true then(0:Int) else x1)))<(0:Int)))=true then(0:Int) else(wrap .i64 (((length (List.append ([]:List aY) ((x3,(x4,()))::([]:List aY))):Nat):Int)-(if(decide (x1<(0:Int)))=true then(0:Int) else x1))))<=((length (List.append ([]:List aY) ((x3,(x4,()))::([]:List aY))):Nat):Int)))=true then
 if(decide (((length (List.append ([]:List aY) ((x3,(x4,()))::([]:List aY))):Nat):Int)<=((length (List.append ([]:List aY) ((x3,(x4,()))::([]:List aY))):Nat):Int)))=true then
 if(decide (length ([]:List aY)+length (aX (Int.toNat (if(decide ((wrap .i64 (((length (List.append ([]:List aY) ((x3,(x4,()))::([]:List aY))):Nat):Int)-(if(decide (x1<(0:Int)))=true then(0:Int) else x1)))<(0:Int)))=true then(0:Int) else(wrap .i64 (((length (List.append ([]:List aY) ((x3,(x4,()))::([]:List aY))):Nat):Int)-(if(decide (x1<(0:Int)))=true then(0:Int) else x1))))) (Int.toNat ((length (List.append ([]:List aY) ((x3,(x4,()))::([]:List aY))):Nat):Int)) (List.append ([]:List aY) ((x3,(x4,()))::([]:List aY))))<=hY))=true then
 letB (aS x0) fun v3=>
 some ((),((v3.1,(v3.2.1,(x2,(x3,((List.append ([]:List aY) (aX (Int.toNat (if(decide ((wrap .i64 (((length (List.append ([]:List aY) ((x3,(x4,()))::([]:List aY))):Nat):Int)-(if(decide (x1<(0:Int)))=true then(0:Int) else x1)))<(0:Int)))=true then(0:Int) else(wrap .i64 (((length (List.append ([]:List aY) ((x3,(x4,()))::([]:List aY))):Nat):Int)-(if(decide (x1<(0:Int)))=true then(0:Int) else x1))))) (Int.toNat ((length (List.append ([]:List aY) ((x3,(x4,()))::([]:List aY))):Nat):Int)) (List.append ([]:List aY) ((x3,(x4,()))::([]:List aY))))),v3.2.2.2.2.2))))),()))
 else
 none
 else
 none
 else
 none
 else
 none
 else
 none
 else
 letB (aS x0) fun v4=>
 if(decide (length v4.2.2.2.2.1+length ((x3,(x4,()))::([]:List aY))<=hY))=true then
 if(decide ((0:Int)<=(if(decide ((wrap .i64 (((length (List.append v4.2.2.2.2.1 ((x3,(x4,()))::([]:List aY))):Nat):Int)-(if(decide (x1<(0:Int)))=true then(0:Int) else x1)))<(0:Int)))=true then(0:Int) else(wrap .i64 (((length (List.append v4.2.2.2.2.1 ((x3,(x4,()))::([]:List aY))):Nat):Int)-(if(decide (x1<(0:Int)))=true then(0:Int) else x1))))))=true then
 if(decide ((if(decide ((wrap .i64 (((length (List.append v4.2.2.2.2.1 ((x3,(x4,()))::([]:List aY))):Nat):Int)-(if(decide (x1<(0:Int)))=true then(0:Int) else x1)))<(0:Int)))=true then(0:Int) else(wrap .i64 (((length (List.append v4.2.2.2.2.1 ((x3,(x4,()))::([]:List aY))):Nat):Int)-(if(decide (x1<(0:Int)))=true then(0:Int) else x1))))<=((length (List.append v4.2.2.2.2.1 ((x3,(x4,()))::([]:List aY))):Nat):Int)))=true then
 if(decide (((length (List.append v4.2.2.2.2.1 ((x3,(x4,()))::([]:List aY))):Nat):Int)<=((length (List.append v4.2.2.2.2.1 ((x3,(x4,()))::([]:List aY))):Nat):Int)))=true then
 if(decide (length ([]:List aY)+length (aX (Int.toNat (if(decide ((wrap .i64 (((length (List.append v4.2.2.2.2.1 ((x3,(x4,()))::([]:List aY))):Nat):Int)-(if(decide (x1<(0:Int)))=true then(0:Int) else x1)))<(0:Int)))=true then(0:Int) else(wrap .i64 (((length (List.append v4.2.2.2.2.1 ((x3,(x4,()))::([]:List aY))):Nat):Int)-(if(decide (x1<(0:Int)))=true then(0:Int) else x1))))) (Int.toNat ((length (List.append v4.2.2.2.2.1 ((x3,(x4,()))::([]:List aY))):Nat):Int)) (List.append v4.2.2.2.2.1 ((x3,(x4,()))::([]:List aY))))<=hY))=true then
 some ((),((v4.1,(v4.2.1,(x2,(x3,((List.append ([]:List aY) (aX (Int.toNat (if(decide ((wrap .i64 (((length (List.append v4.2.2.2.2.1 ((x3,(x4,()))::([]:List aY))):Nat):Int)-(if(decide (x1<(0:Int)))=true then(0:Int) else x1)))<(0:Int)))=true then(0:Int) else(wrap .i64 (((length (List.append v4.2.2.2.2.1 ((x3,(x4,()))::([]:List aY))):Nat):Int)-(if(decide (x1<(0:Int)))=true then(0:Int) else x1))))) (Int.toNat ((length (List.append v4.2.2.2.2.1 ((x3,(x4,()))::([]:List aY))):Nat):Int)) (List.append v4.2.2.2.2.1 ((x3,(x4,()))::([]:List aY))))),v4.2.2.2.2.2))))),()))
 else
 none
 else
 none
 else
 none
 else
 none
 else
 none
 else
 none
 else
 none
theorem eq(x0:aC)(x1 x2 x3 x4:Int)(hw:wf x0 x1 x2 x3 x4)(hp:pre x0 x1 x2 x3 x4=true):aQ x0 x1 x2 x3 x4=some ((),(jC x0 x1 x2 x3 x4,())):=by
 have hs:cH x0.2.2.2.2.1=true:=hp
 have hs':=bW.1 hs
 have hx1:-9223372036854775808<=x1/\x1<=9223372036854775807:=aLa.1 hw.2.1
 have lim1:∀l:List aY,l.length<=16777216->decide (l.length+([(x3,(x4,()))]:List aY).length<=hY)=true:=fun l h=>by
  simp only[Za,Zg,Zh,hY];omega
 have lim2:∀(l:List aY) (k:Int),l.length<=16777217->decide (([]:List aY).length+(aX k.toNat ((l.length:Int)).toNat l).length<=hY)=true:=fun l k h=>by
  simp only[Za,Zh,aX,Zr,Zs,hY];omega
 unfold aQ
 rw[show aS x0=x0 from rfl]
 refine bV (show aS.pre x0=true from hs) (bV (show dE.pre x0 x2 x3=true from hs) (eN ?_))
 by_cases c1:(dA x0 x2 x3).1=0
 case neg=>
  rw[show jC x0 x1 x2 x3 x4=x0 from if_neg c1]
  exact bV (by simp only[Bool.not_eq_true',Zv];exact c1) (eN rfl)
 refine dM (by simp only[Bool.not_eq_true',Zv,Decidable.not_not];exact c1) ?_
 rw[show jC x0 x1 x2 x3 x4=_ from if_pos c1]
 by_cases c2:x0.2.2.1<x2
 . rw[if_pos c2]
   obtain⟨k1,k2,k3⟩:=aJE (l:=List.append ([]:List aY) [(x3,(x4,()))]) (w:=x1) (by simp) hx1
   refine bV (Zd c2) (bV (lim1 [] (by simp)) (bV (Zd k1) (bV (Zd k2) (bV (Zd (Int.le_refl _)) (bV (lim2 _ _ (by simp)) (eN ?_))))))
   exact congrArg (fun t=>some ((),((x0.1,(x0.2.1,(x2,(x3,(t,()))))),()))) k3
 . rw[if_neg c2]
   have hl:(List.append x0.2.2.2.2.1 [(x3,(x4,()))]).length<=16777217:=by rw[List.append_eq,Zf,Zg,Zh];omega
   obtain⟨k1,k2,k3⟩:=aJE (l:=List.append x0.2.2.2.2.1 [(x3,(x4,()))]) (w:=x1) hl hx1
   refine dM (by rw[Za];exact c2) (eN (bV (lim1 _ hs') (bV (Zd k1) (bV (Zd k2) (bV (Zd (Int.le_refl _)) (bV (lim2 _ _ hl) ?_))))))
   exact congrArg (fun t=>some ((),((x0.1,(x0.2.1,(x2,(x3,(t,()))))),()))) k3
end kE
abbrev gG:List aC->aC->List aC:=oG
namespace gG
abbrev S4:Type:=(Bool×(Int×(Int×(aC×((List aC)×(Nat×yJ))))))
abbrev O4:Type:=(Bool×(aC×yJ))
def pre4:S4->Bool:=fun(_,x2,x3,x4,x5,x6,x7,_)=>decide (x2=(x6:Int))&&(decide (x6<=16777216)&&(cH x4.2.2.2.2.1&&(decide (0<=x3)&&(decide (x3.toNat+x7.length=x6)&&decide (x5.length<=2*x3.toNat)))))
def lN:S4->Nat:=fun(_,_,_,_,_,_,x7,_)=>x7.length
def Q4(s:S4)(o:O4):Prop:=match s,o with
 |(x1,_,_,x4,x5,x6,x7,_),(o1,o2,o3,_)=>o2=x4/\o3++cond o1 [] [x4]=x5++iL x4 x1 x7/\o3.length<=2*x6
noncomputable def eA(x1:Bool)(x2:Int)(x3:Int)(x4:aC)(x5:(List aC))(x6:Nat)(x7:(List aC)):Option ((Bool×(Int×(Int×(aC×((List aC)×(Nat×yJ))))))⊕(Bool×(aC×yJ))):=
 if(decide (x3<x2))=true then
 if(decide ((0:Int)<=x3))=true then
 if(decide (x3<((x6:Nat):Int)))=true then
 if(decide ((Int.toNat x3)+length x7=x6))=true then
 if(decide ((0:Int)<((length x7:Nat):Int)))=true then
 if(decide ((List.getD x7 0 jY).1=x4.1))=true then
 if(!x1)=true then
 if(decide ((List.getD x7 0 jY).2.1=x4.2.1))=true then
 if(aS.pre x4)=true then
 letB (aS x4) fun v1=>
 if(decide (length x5+length (v1::([]:List aC))<=hY))=true then
 if(!(decide ((List.getD x7 0 jY).2.1=x4.2.1)))=true then
 if(decide (length (List.append x5 (v1::([]:List aC)))+length ((List.getD x7 0 jY)::([]:List aC))<=hY))=true then
 some (.inl (true,(x2,((wrap .i64 (x3+(1:Int))),(x4,((List.append (List.append x5 (v1::([]:List aC))) ((List.getD x7 0 jY)::([]:List aC))),(x6,((List.tail x7),()))))))))
 else
 none
 else
 some (.inl (true,(x2,((wrap .i64 (x3+(1:Int))),(x4,((List.append x5 (v1::([]:List aC))),(x6,((List.tail x7),()))))))))
 else
 none
 else
 none
 else
 if(decide (x4.1<(List.getD x7 0 jY).1))=true then
 if(aS.pre x4)=true then
 letB (aS x4) fun v2=>
 if(decide (length x5+length (v2::([]:List aC))<=hY))=true then
 if(!(decide ((List.getD x7 0 jY).2.1=x4.2.1)))=true then
 if(decide (length (List.append x5 (v2::([]:List aC)))+length ((List.getD x7 0 jY)::([]:List aC))<=hY))=true then
 some (.inl (true,(x2,((wrap .i64 (x3+(1:Int))),(x4,((List.append (List.append x5 (v2::([]:List aC))) ((List.getD x7 0 jY)::([]:List aC))),(x6,((List.tail x7),()))))))))
 else
 none
 else
 some (.inl (true,(x2,((wrap .i64 (x3+(1:Int))),(x4,((List.append x5 (v2::([]:List aC))),(x6,((List.tail x7),()))))))))
 else
 none
 else
 none
 else
 if(decide ((List.getD x7 0 jY).1=x4.1))=true then
 if(decide (x4.2.1<(List.getD x7 0 jY).2.1))=true then
 if(aS.pre x4)=true then
 letB (aS x4) fun v3=>
 if(decide (length x5+length (v3::([]:List aC))<=hY))=true then
 if(!(decide ((List.getD x7 0 jY).2.1=x4.2.1)))=true then
 if(decide (length (List.append x5 (v3::([]:List aC)))+length ((List.getD x7 0 jY)::([]:List aC))<=hY))=true then
 some (.inl (true,(x2,((wrap .i64 (x3+(1:Int))),(x4,((List.append (List.append x5 (v3::([]:List aC))) ((List.getD x7 0 jY)::([]:List aC))),(x6,((List.tail x7),()))))))))
 else
 none
 else
 some (.inl (true,(x2,((wrap .i64 (x3+(1:Int))),(x4,((List.append x5 (v3::([]:List aC))),(x6,((List.tail x7),()))))))))
 else
 none
 else
 none
 else
 if(!(decide ((List.getD x7 0 jY).2.1=x4.2.1)))=true then
 if(decide (length x5+length ((List.getD x7 0 jY)::([]:List aC))<=hY))=true then
 some (.inl (x1,(x2,((wrap .i64 (x3+(1:Int))),(x4,((List.append x5 ((List.getD x7 0 jY)::([]:List aC))),(x6,((List.tail x7),()))))))))
 else
 none
 else
 some (.inl (x1,(x2,((wrap .i64 (x3+(1:Int))),(x4,(x5,(x6,((List.tail x7),()))))))))
 else
 if(!(decide ((List.getD x7 0 jY).2.1=x4.2.1)))=true then
 if(decide (length x5+length ((List.getD x7 0 jY)::([]:List aC))<=hY))=true then
 some (.inl (x1,(x2,((wrap .i64 (x3+(1:Int))),(x4,((List.append x5 ((List.getD x7 0 jY)::([]:List aC))),(x6,((List.tail x7),()))))))))
 else
 none
 else
 some (.inl (x1,(x2,((wrap .i64 (x3+(1:Int))),(x4,(x5,(x6,((List.tail x7),()))))))))
 else
 if(!(decide ((List.getD x7 0 jY).2.1=x4.2.1)))=true then
 if(decide (length x5+length ((List.getD x7 0 jY)::([]:List aC))<=hY))=true then
 some (.inl (x1,(x2,((wrap .i64 (x3+(1:Int))),(x4,((List.append x5 ((List.getD x7 0 jY)::([]:List aC))),(x6,((List.tail x7),()))))))))
 else
 none
 else
 some (.inl (x1,(x2,((wrap .i64 (x3+(1:Int))),(x4,(x5,(x6,((List.tail x7),()))))))))
 else
 if(!x1)=true then
 if(decide (x4.1<(List.getD x7 0 jY).1))=true then
 if(aS.pre x4)=true then
 letB (aS x4) fun v4=>
 if(decide (length x5+length (v4::([]:List aC))<=hY))=true then
 if(!false)=true then
 if(decide (length (List.append x5 (v4::([]:List aC)))+length ((List.getD x7 0 jY)::([]:List aC))<=hY))=true then
 some (.inl (true,(x2,((wrap .i64 (x3+(1:Int))),(x4,((List.append (List.append x5 (v4::([]:List aC))) ((List.getD x7 0 jY)::([]:List aC))),(x6,((List.tail x7),()))))))))
 else
 none
 else
 some (.inl (true,(x2,((wrap .i64 (x3+(1:Int))),(x4,((List.append x5 (v4::([]:List aC))),(x6,((List.tail x7),()))))))))
 else
 none
 else
 none
 else
 if(decide ((List.getD x7 0 jY).1=x4.1))=true then
 if(decide (x4.2.1<(List.getD x7 0 jY).2.1))=true then
 if(aS.pre x4)=true then
 letB (aS x4) fun v5=>
 if(decide (length x5+length (v5::([]:List aC))<=hY))=true then
 if(!false)=true then
 if(decide (length (List.append x5 (v5::([]:List aC)))+length ((List.getD x7 0 jY)::([]:List aC))<=hY))=true then
 some (.inl (true,(x2,((wrap .i64 (x3+(1:Int))),(x4,((List.append (List.append x5 (v5::([]:List aC))) ((List.getD x7 0 jY)::([]:List aC))),(x6,((List.tail x7),()))))))))
 else
 none
 else
 some (.inl (true,(x2,((wrap .i64 (x3+(1:Int))),(x4,((List.append x5 (v5::([]:List aC))),(x6,((List.tail x7),()))))))))
 else
 none
 else
 none
 else
 if(!false)=true then
 if(decide (length x5+length ((List.getD x7 0 jY)::([]:List aC))<=hY))=true then
 some (.inl (x1,(x2,((wrap .i64 (x3+(1:Int))),(x4,((List.append x5 ((List.getD x7 0 jY)::([]:List aC))),(x6,((List.tail x7),()))))))))
 else
 none
 else
 some (.inl (x1,(x2,((wrap .i64 (x3+(1:Int))),(x4,(x5,(x6,((List.tail x7),()))))))))
 else
 if(!false)=true then
 if(decide (length x5+length ((List.getD x7 0 jY)::([]:List aC))<=hY))=true then
 some (.inl (x1,(x2,((wrap .i64 (x3+(1:Int))),(x4,((List.append x5 ((List.getD x7 0 jY)::([]:List aC))),(x6,((List.tail x7),()))))))))
 else
 none
 else
 some (.inl (x1,(x2,((wrap .i64 (x3+(1:Int))),(x4,(x5,(x6,((List.tail x7),()))))))))
 else
 if(!false)=true then
 if(decide (length x5+length ((List.getD x7 0 jY)::([]:List aC))<=hY))=true then
 some (.inl (x1,(x2,((wrap .i64 (x3+(1:Int))),(x4,((List.append x5 ((List.getD x7 0 jY)::([]:List aC))),(x6,((List.tail x7),()))))))))
 else
 none
 else
 some (.inl (x1,(x2,((wrap .i64 (x3+(1:Int))),(x4,(x5,(x6,((List.tail x7),()))))))))
 else
 none
 else
 none
 else
 none
 else
 none
 else
 some (.inr (x1,(x4,(x5,()))))
theorem wp4:∀s,pre4 s=true->Wp ((fun(x:S4)=>eA x.1 x.2.1 x.2.2.1 x.2.2.2.1 x.2.2.2.2.1 x.2.2.2.2.2.1 x.2.2.2.2.2.2.1) s) (iW pre4 lN Q4 s):=by
 rintro⟨x1,x2,x3,x4,x5,x6,x7,⟨⟩⟩ hp
 simp only[pre4,Zb,Za] at hp
 obtain⟨rfl,hs,hx,h1,h2,h3⟩:=hp
 show Wp (eA x1 (x6:Int) x3 x4 x5 x6 x7) _
 unfold eA
 cases hx7:x7 with
 |nil=>
  rw[hx7,Zh] at h2
  refine fP (by rw[Za];omega) (aN ⟨rfl,?_,by show x5.length<=2*x6;omega⟩)
  rfl
 |cons e r=>
  rw[<-hx7]
  have hge:x7.getD 0 jY=e:=by rw[hx7];rfl
  have htl:List.tail x7=r:=by rw[hx7];rfl
  have hlen:x7.length=r.length+1:=by rw[hx7];rfl
  rw[hge,htl,lF (n:=x3+1) (by omega) (by omega)]
  have cp1:aS.pre x4=true:=hx
  have nx:∀(p:Bool) (y:List aC),y.length<=2->iL x4 x1 x7=y++iL x4 p r->
   iW pre4 lN Q4 (x1,(x6:Int),x3,x4,x5,x6,x7,()) (.inl (p,((x6:Int),((x3+1),(x4,(x5++y,(x6,(r,())))))))):=by
   intro p y hy he
   refine⟨?_,by simp only[lN];omega,?_⟩
   . simp only[pre4,Zb,Za,Zf]
     exact⟨trivial,hs,hx,by omega,by omega,by omega⟩
   . rintro⟨o1,o2,o3,⟨⟩⟩ ⟨q1,q2,q3⟩
     refine⟨q1,q2.trans ?_,q3⟩
     rw[he,Zk]
  have l1:∀a:aC,decide (x5.length+(a::([]:List aC)).length<=hY)=true:=fun a=>by
   simp only[Za,Zg,Zh,hY];omega
  have l2:∀a b:aC,decide ((List.append x5 (a::([]:List aC))).length+(b::([]:List aC)).length<=hY)=true:=fun a b=>by
   simp only[Za,List.append_eq,Zf,Zg,Zh,hY];omega
  have set1:lT x4.1 x4.2.1 e=true->x1=false->iL x4 x1 x7=[x4]++iL x4 true r:=by
   intro a b;rw[hx7,b];simp only[iL,a,cond_true,cond_false];rfl
  have set2:lT x4.1 x4.2.1 e=true->x1=true->iL x4 x1 x7=[]++iL x4 x1 r:=by
   intro a b;rw[hx7,b];simp only[iL,a,cond_true];rfl
  have set3:lT x4.1 x4.2.1 e=false->x1=false->pO e x4=true->iL x4 x1 x7=[x4,e]++iL x4 true r:=by
   intro a b c;rw[hx7,b];simp only[iL,a,c,cond_false,Bool.not_false,Bool.and_self,cond_true];rfl
  have set4:lT x4.1 x4.2.1 e=false->(!x1&&pO e x4)=false->iL x4 x1 x7=[e]++iL x4 x1 r:=by
   intro a b;rw[hx7];simp only[iL,a,b,cond_false];rfl
  have fA:∀{p:Bool},(!p)=true->p=false:=by intro p h;cases p<;>simp_all
  have fB:∀{p:Bool},¬(!p)=true->p=true:=by intro p h;cases p<;>simp_all
  have keep0:∀(_:iL x4 x1 x7=[]++iL x4 x1 r),iW pre4 lN Q4 (x1,(x6:Int),x3,x4,x5,x6,x7,()) (.inl (x1,((x6:Int),((x3+1),(x4,(x5,(x6,(r,())))))))):=fun h=>by
   have:=nx x1 [] (by simp) h
   rwa [List.append_nil] at this
  have put2:∀(_:iL x4 x1 x7=[x4,e]++iL x4 true r),iW pre4 lN Q4 (x1,(x6:Int),x3,x4,x5,x6,x7,()) (.inl (true,((x6:Int),((x3+1),(x4,(List.append (List.append x5 (x4::([]:List aC))) (e::([]:List aC)),(x6,(r,())))))))):=fun h=>by
   have:=nx true [x4,e] (by simp) h
   simpa using this
  refine aL (Zd (by omega)) (aL (Zd h1) (aL (Zd (by omega)) (aL (Zd h2) (aL (Zd (by omega)) (eG (fun a=>?_) fun a=>?_)))))
  . rw[Za] at a
    refine eG (fun c=>?_) fun c=>?_
    . refine eG (fun b=>?_) fun b=>?_
      . rw[Za] at b
        have hk:lT x4.1 x4.2.1 e=true:=by simp[lT,a,b]
        exact aL cp1 (dB (aL (l1 _) (fP (by simp[b]) (aN (nx true [x4] (by simp) (set1 hk (fA c)))))))
      . rw[Za] at b
        have hk:lT x4.1 x4.2.1 e=false:=by simp[lT,b]
        refine fP (by rw[Za];omega) (aL (Zd a) (eG (fun f=>?_) fun f=>?_))
        . rw[Za] at f
          exact aL cp1 (dB (aL (l1 _) (aL (by simp[b]) (aL (l2 _ _) (aN (put2 (set3 hk (fA c) (by simp[pO,a,f]))))))))
        . rw[Za] at f
          exact aL (by simp[b]) (aL (l1 _) (aN (nx x1 [e] (by simp) (set4 hk (by simp[pO,a,f])))))
    . refine eG (fun b=>?_) fun b=>?_
      . simp only[Bool.not_eq_true',Zv] at b
        exact aL (l1 _) (aN (nx x1 [e] (by simp) (set4 (by simp[lT,b]) (by rw[fB c];rfl))))
      . simp only[Bool.not_eq_true',Zv,Decidable.not_not] at b
        exact aN (keep0 (set2 (by simp[lT,a,b]) (fB c)))
  . rw[Za] at a
    have hk:lT x4.1 x4.2.1 e=false:=by simp[lT,a]
    refine eG (fun c=>?_) fun c=>?_
    . refine eG (fun d=>?_) fun d=>?_
      . rw[Za] at d
        exact aL cp1 (dB (aL (l1 _) (aL rfl (aL (l2 _ _) (aN (put2 (set3 hk (fA c) (by simp[pO,d]))))))))
      . rw[Za] at d
        exact fP (by rw[Za];exact a) (aL rfl (aL (l1 _) (aN (nx x1 [e] (by simp) (set4 hk (by simp[pO,a,d]))))))
    . exact aL rfl (aL (l1 _) (aN (nx x1 [e] (by simp) (set4 hk (by rw[fB c];rfl)))))
noncomputable def fn4:S4->O4:=aCa (fun(x:S4)=>eA x.1 x.2.1 x.2.2.1 x.2.2.2.1 x.2.2.2.2.1 x.2.2.2.2.2.1 x.2.2.2.2.2.2.1) lN
theorem uM(x1:Bool)(x2 x3:Int)(x4:aC)(x5:List aC)(x6:Nat)(x7:List aC)(hp:pre4 (x1,(x2,(x3,(x4,(x5,(x6,(x7,())))))))=true):Rounds pre4 lN fn4 (x1,(x2,(x3,(x4,(x5,(x6,(x7,()))))))) (eA x1 x2 x3 x4 x5 x6 x7):=sP wp4 hp
def pre(xs:List aC)(m:aC):Bool:=xR xs&&cH m.2.2.2.2.1
abbrev wf(x0:(List aC))(x1:aC):Prop:=hN [(.val (.sl 0 vJ) .f),(.val vJ .f)] (x0,(x1,()))
noncomputable def aQ(x0:(List aC))(x1:aC):Option (Unit×yJ):=
 if(cV.pre x0)=true then
 letB (cV x0) fun v1=>
 if(gG.pre4 (false,(((length v1:Nat):Int),((0:Int),(x1,(([]:List aC),((length v1),(v1,()))))))))=true then
 letB (gG.fn4 (false,(((length v1:Nat):Int),((0:Int),(x1,(([]:List aC),((length v1),(v1,())))))))) fun v2=>
 if(!v2.1)=true then
 if(aS.pre v2.2.1)=true then
 letB (aS v2.2.1) fun v3=>
 if(decide (length v2.2.2.1+length (v3::([]:List aC))<=hY))=true then
 some ((),((List.append v2.2.2.1 (v3::([]:List aC))),()))
 else
 none
 else
 none
 else
 some ((),v2.2.2)
 else
 none
 else
 none
theorem eq(x0:List aC)(x1:aC)(_:wf x0 x1)(hp:pre x0 x1=true):aQ x0 x1=some ((),(oG x0 x1,())):=by
 simp only[pre,Zb] at hp
 have hm:=sV.1 hp.1
 refine aET ?_
 unfold aQ
 rw[show cV x0=x0 from rfl]
 have hq:pre4 (false,((x0.length:Int),((0:Int),(x1,(([]:List aC),(x0.length,(x0,())))))))=true:=by
  simp only[pre4,Zb,Za,Zh];exact⟨trivial,hm.1,hp.2,by omega,by simp,by omega⟩
 refine aL (show cV.pre x0=true from hp.1) (dB (aL hq (uJ (vO wp4 hq:Q4 _ (fn4 _)) ?_)))
 rintro⟨o1,o2,o3,⟨⟩⟩ ⟨q1,q2,q3⟩
 have q1:o2=x1:=q1
 have q2:o3++cond o1 [] [x1]=oG x0 x1:=q2
 have q3:o3.length<=2*x0.length:=q3
 subst q1
 cases o1
 . refine aL rfl (aL (show aS.pre o2=true from hp.2) (dB (aL (by simp only[Za,Zg,Zh,hY];omega) (aN q2))))
 . refine fP Bool.false_ne_true (aN ?_)
   rw[<-q2]
   exact(List.append_nil _).symm
end gG
def bL(xs:List aP)(p:(aP->Bool)×(aP->Bool)):Int:=mU p.2 xs 0
namespace bL
def pre(xs:List aP)(p:(aP->Bool)×(aP->Bool)):Bool:=xs.all p.1
def pre2:=rY (α:=aP)
def fn2:=aB6 (α:=aP)
def mA:=aFg (α:=aP)
noncomputable def dT(x1:(List aP))(x2:(aP->Bool))(x3:(aP->Bool))(x4:Int)(x5:Int):Option (((List aP)×((aP->Bool)×((aP->Bool)×aY)))⊕((Int×Unit)⊕Unit)):=
 if(decide (x5<x4))=true then
 if(decide ((0:Int)<=x5))=true then
 if(decide (x5<((length x1:Nat):Int)))=true then
 if(x2 (List.getD x1 (Int.toNat x5) lL))=true then
 if(x3 (List.getD x1 (Int.toNat x5) lL))=true then
 some (.inr (.inl (x5,())))
 else
 some (.inl (x1,(x2,(x3,(x4,((wrap .i64 (x5+(1:Int))),()))))))
 else
 none
 else
 none
 else
 none
 else
 some (.inr (.inr ()))
abbrev wf(x0:(List aP))(x1:((aP->Bool)×(aP->Bool))):Prop:=hN [(.val (.sl 0 zI) .f),(.fn zI .bool)] (x0,(x1,()))
noncomputable def aQ(x0:(List aP))(x1:((aP->Bool)×(aP->Bool))):Option uK:=
 if(bL.pre2 (x0,(x1.1,(x1.2,(((length x0:Nat):Int),((0:Int),()))))))=true then
  letB (bL.fn2 (x0,(x1.1,(x1.2,(((length x0:Nat):Int),((0:Int),())))))) fun v1=>
  match v1 with
  |.inl y=>
   some ((),y)
  |.inr y=>
   some ((),((-1:Int),()))
 else
  none
theorem rR(x1:List aP)(x2 x3:aP->Bool)(x4 x5:Int)(hp:pre2 (x1,(x2,(x3,(x4,(x5,())))))=true):Rounds pre2 mA fn2 (x1,(x2,(x3,(x4,(x5,()))))) (dT x1 x2 x3 x4 x5):=by
 unfold dT
 by_cases hlt:x5<x4
 . obtain⟨h1,h2,h3,h4,h5⟩:=aBf hp hlt lL
   simp only[hlt,h1,h2,h3,decide_true,if_true]
   split
   . rename_i h;exact h4 h
   . rename_i h;exact h5 h
 . simp only[hlt,decide_false,Zj,if_false]
   exact aCw hp hlt
theorem eq(x0:List aP)(x1:(aP->Bool)×(aP->Bool))(hw:wf x0 x1)(hp:pre x0 x1=true):aQ x0 x1=some ((),(bL x0 x1,())):=by
 have h1:x0.length<=maxLen:=hw.1.1
 unfold aQ
 rw[if_pos (show pre2 _=true by simp only[pre2,rY,Zb,Za];exact⟨h1,trivial,by omega,by simp,hp⟩)]
 exact aCT x0 x1
end bL
def dF(xs:List aP)(p:(aP->Bool)×(aP->Bool)):Bool:=xs.any p.2
namespace dF
def pre(xs:List aP)(p:(aP->Bool)×(aP->Bool)):Bool:=xs.all p.1
abbrev wf(x0:(List aP))(x1:((aP->Bool)×(aP->Bool))):Prop:=hN [(.val (.sl 0 zI) .f),(.fn zI .bool)] (x0,(x1,()))
noncomputable def aQ(x0:(List aP))(x1:((aP->Bool)×(aP->Bool))):Option mO:=
 if(bL.pre x0 x1)=true then
 letB (bL x0 x1) fun v1=>
 some ((),((decide ((0:Int)<=v1)),()))
 else
 none
theorem eq(x0:List aP)(x1:(aP->Bool)×(aP->Bool))(_:wf x0 x1)(hp:pre x0 x1=true):aQ x0 x1=some ((),(dF x0 x1,())):=by
 unfold aQ
 exact bV (show bL.pre _ _=true from hp) (congrArg (fun b=>some ((),(b,()))) (aD6 x1.2 x0))
end dF
theorem aBW{α:Type}(p:α->Bool):(xs:List α)->(i:Int)->0<=i->(mU p xs i=-1->xs.filter (fun v=>!p v)=xs)/\
 (mU p xs i≠-1->i<=mU p xs i/\mU p xs i<i+xs.length/\xs.filter (fun v=>!p v)=xs.take (mU p xs i-i).toNat++(xs.drop ((mU p xs i-i).toNat+1)).filter fun v=>!p v)
 |[],i,h=>⟨fun _=>rfl,fun h=>absurd rfl h⟩
 |x::r,i,h=>by
  simp only[mU]
  cases hx:p x
  . have ih:=aBW p r (i+1) (by omega)
    simp only[Zj,if_false]
    have hf:(x::r).filter (fun v=>!p v)=x::r.filter fun v=>!p v:=by rw[List.filter_cons,if_pos (by rw[hx];rfl)]
    refine⟨fun hh=>by rw[hf,ih.1 hh],fun hh=>?_⟩
    obtain⟨g1,g2,g3⟩:=ih.2 hh
    refine⟨by omega,by simp only[Zg];omega,?_⟩
    rw[hf,g3,show(mU p r (i+1)-i).toNat=(mU p r (i+1)-(i+1)).toNat+1 by omega]
    rfl
  . simp only[if_true]
    refine⟨fun hh=>by omega,fun _=>⟨Int.le_refl _,by simp only[Zg];omega,?_⟩⟩
    rw[List.filter_cons,if_neg (by rw[hx];simp),Int.sub_self]
    rfl
def cO(xs:List aP)(p:(aP->Bool)×(aP->Bool)):List aP:=xs.filter fun v=>!p.2 v
namespace cO
abbrev S5:Type:=((aP->Bool)×((aP->Bool)×bS))
abbrev O5:Type:=(Int×((List aP)×Unit))
def pre5:S5->Bool:=fun(x1,_,x3,x4,x5,_)=>cH x5&&(decide (0<=x3)&&(decide (x3<x4)&&(decide (x4<=(x5.length:Int))&&(x5.drop x4.toNat).all x1)))
def mu5:S5->Nat:=fun(_,_,_,x4,x5,_)=>x5.length-x4.toNat
def Q5(s:S5)(o:O5):Prop:=match s,o with
 |(_,x2,x3,x4,x5,_),(o1,o2,_)=>0<=o1/\o1<=(o2.length:Int)/\o2.take o1.toNat=x5.take x3.toNat++(x5.drop x4.toNat).filter fun v=>!x2 v
noncomputable def rA(x1:(aP->Bool))(x2:(aP->Bool))(x3:Int)(x4:Int)(x5:(List aP)):Option (((aP->Bool)×((aP->Bool)×bS))⊕(Int×((List aP)×Unit))):=
 if(decide (x4<((length x5:Nat):Int)))=true then
 if(decide ((0:Int)<=x4))=true then
 if(decide (x4<((length x5:Nat):Int)))=true then
 if(x1 (List.getD x5 (Int.toNat x4) lL))=true then
 if(!(x2 (List.getD x5 (Int.toNat x4) lL)))=true then
 if(decide ((0:Int)<=x3))=true then
 if(decide (x3<((length x5:Nat):Int)))=true then
 some (.inl (x1,(x2,((wrap .i64 (x3+(1:Int))),((wrap .i64 (x4+(1:Int))),((List.modify x5 (Int.toNat x3) (fun z=>(List.getD x5 (Int.toNat x4) lL))),()))))))
 else
 none
 else
 none
 else
 some (.inl (x1,(x2,(x3,((wrap .i64 (x4+(1:Int))),(x5,()))))))
 else
 none
 else
 none
 else
 none
 else
 some (.inr (x3,(x5,())))
theorem wp5:∀s,pre5 s=true->Wp ((fun(x:S5)=>rA x.1 x.2.1 x.2.2.1 x.2.2.2.1 x.2.2.2.2.1) s) (iW pre5 mu5 Q5 s):=by
 rintro⟨x1,x2,x3,x4,x5,⟨⟩⟩ hp
 simp only[pre5,Zb,Za] at hp
 obtain⟨hs,h1,h2,h3,h4⟩:=hp
 have hs':=bW.1 hs
 show Wp (rA x1 x2 x3 x4 x5) _
 unfold rA
 by_cases hlt:x4<(x5.length:Int)
 . have hn:x4.toNat<x5.length:=by omega
   have e1:=Zn hn
   rw[cX hn,lF (n:=x3+1) (by omega) (by omega),lF (n:=x4+1) (by omega) (by omega),nY]
   rw[e1,List.all_cons,Zb] at h4
   generalize hv:x5[x4.toNat]=v at *
   refine aL (Zd hlt) (aL (Zd (by omega)) (aL (Zd hlt) (aL h4.1 (eG (fun c=>?_) fun c=>?_))))
   . have hi:x3.toNat<x5.length:=by omega
     have d1:(x5.set x3.toNat v).drop (x4+1).toNat=x5.drop (x4.toNat+1):=by
      rw[show(x4+1).toNat=x4.toNat+1 by omega,List.drop_set_of_lt (by omega)]
     refine aL (Zd h1) (aL (Zd (by omega)) (aN ⟨?_,?_,?_⟩))
     . simp only[pre5,Zb,Za,List.length_set,bW,d1]
       exact⟨hs',by omega,by omega,by omega,h4.2⟩
     . simp only[mu5,List.length_set];omega
     . rintro⟨o1,o2,⟨⟩⟩ ⟨q1,q2,q3⟩
       refine⟨q1,q2,q3.trans ?_⟩
       rw[d1,e1,List.filter_cons,if_pos c,show(x3+1).toNat=x3.toNat+1 by omega,List.take_succ_eq_append_getElem (by simpa using hi),List.getElem_set_self,List.take_set_of_le (Nat.le_refl _),Zk]
       rfl
   . refine aN ⟨?_,by simp only[mu5];omega,?_⟩
     . simp only[pre5,Zb,Za]
       rw[show(x4+1).toNat=x4.toNat+1 by omega]
       exact⟨hs,h1,by omega,by omega,h4.2⟩
     . rintro⟨o1,o2,⟨⟩⟩ ⟨q1,q2,q3⟩
       refine⟨q1,q2,q3.trans ?_⟩
       rw[e1,List.filter_cons,if_neg c,show(x4+1).toNat=x4.toNat+1 by omega]
 . refine fP (by rw[Za];exact hlt) (aN ⟨h1,by show x3<=(x5.length:Int);omega,?_⟩)
   rw[Zt (by omega)]
   exact(List.append_nil _).symm
noncomputable def fn5:S5->O5:=aCa (fun(x:S5)=>rA x.1 x.2.1 x.2.2.1 x.2.2.2.1 x.2.2.2.2.1) mu5
theorem ok5(x1 x2:aP->Bool)(x3 x4:Int)(x5:List aP)(hp:pre5 (x1,(x2,(x3,(x4,(x5,())))))=true):Rounds pre5 mu5 fn5 (x1,(x2,(x3,(x4,(x5,()))))) (rA x1 x2 x3 x4 x5):=sP wp5 hp
def pre(xs:List aP)(p:(aP->Bool)×(aP->Bool)):Bool:=cH xs&&xs.all p.1
abbrev wf(x0:(List aP))(x1:((aP->Bool)×(aP->Bool))):Prop:=hN [(.val (.sl 0 zI) .o),(.fn zI .bool)] (x0,(x1,()))
noncomputable def aQ(x0:(List aP))(x1:((aP->Bool)×(aP->Bool))):Option (Unit×((List aP)×Unit)):=
 if(bL.pre x0 x1)=true then
 letB (bL x0 x1) fun v1=>
 if(decide (v1=(-1:Int)))=true then
 some ((),(x0,()))
 else
 if(cO.pre5 (x1.1,(x1.2,(v1,((wrap .i64 (v1+(1:Int))),(x0,()))))))=true then
 letB (cO.fn5 (x1.1,(x1.2,(v1,((wrap .i64 (v1+(1:Int))),(x0,())))))) fun v2=>
 if(decide ((0:Int)<=v2.1))=true then
 if(decide (v2.1<=((length v2.2.1:Nat):Int)))=true then
 if(decide (((length v2.2.1:Nat):Int)<=((length v2.2.1:Nat):Int)))=true then
 if(decide ((0:Int)<=(0:Int)))=true then
 if(decide ((0:Int)<=v2.1))=true then
 if(decide (v2.1<=((length (qG (Int.toNat v2.1) (Int.toNat ((length v2.2.1:Nat):Int)) lL v2.2.1):Nat):Int)))=true then
 some ((),((aX (Int.toNat (0:Int)) (Int.toNat v2.1) (qG (Int.toNat v2.1) (Int.toNat ((length v2.2.1:Nat):Int)) lL v2.2.1)),()))
 else
 none
 else
 none
 else
 none
 else
 none
 else
 none
 else
 none
 else
 none
 else
 none
theorem eq(x0:List aP)(x1:(aP->Bool)×(aP->Bool))(_:wf x0 x1)(hp:pre x0 x1=true):aQ x0 x1=some ((),(cO x0 x1,())):=by
 simp only[pre,Zb] at hp
 have hs':=bW.1 hp.1
 have hx:=aBW x1.2 x0 0 (Int.le_refl _)
 refine aET ?_
 unfold aQ
 refine aL (show bL.pre _ _=true from hp.2) (dB (eG (fun c=>?_) fun c=>?_))
 . rw[Za] at c
   exact aN (hx.1 c).symm
 . rw[Za] at c
   obtain⟨g1,g2,g3⟩:=hx.2 c
   show Wp (if cO.pre5 (x1.1,(x1.2,(mU x1.2 x0 0,((wrap .i64 (mU x1.2 x0 0+1)),(x0,())))))=true then _ else _) _
   have hq:pre5 (x1.1,(x1.2,(mU x1.2 x0 0,((wrap .i64 (mU x1.2 x0 0+1)),(x0,())))))=true:=by
    rw[lF (n:=mU x1.2 x0 0+1) (by omega) (by omega)]
    simp only[pre5,Zb,Za]
    refine⟨hp.1,g1,by omega,by omega,?_⟩
    rw[Zu]
    exact fun y hy=>Zu.1 hp.2 y (List.mem_of_mem_drop hy)
   refine aL hq (uJ (vO wp5 hq:Q5 _ (fn5 _)) ?_)
   rintro⟨o1,o2,⟨⟩⟩ ⟨q1,q2,q3⟩
   have q2:o1<=(o2.length:Int):=q2
   refine aL (Zd q1) (aL (Zd q2) (aL (Zd (Int.le_refl _)) (aL (by decide) (aL (Zd q1) (aL ?_ (aN ?_))))))
   . rw[Za]
     simp only[qG,Zf,Zr,List.length_replicate,Zs]
     omega
   . show(((qG o1.toNat ((o2.length:Int)).toNat _ o2).drop (Int.toNat 0)).take (o1.toNat-Int.toNat 0))=x0.filter _
     rw[Int.toNat_zero,List.drop_zero,Nat.sub_zero,g3]
     unfold qG
     rw[Zk,List.take_append_of_le_length (by rw[Zr];omega),List.take_take,Nat.min_self,q3,lF (n:=mU x1.2 x0 0+1) (by omega) (by omega),Int.sub_zero,show(mU x1.2 x0 0+1).toNat=(mU x1.2 x0 0).toNat+1 by omega]
end cO
theorem aAR{f:aP->Int}{b:Int}:(l:List aP)->l.Pairwise (fun x y=>f x<=f y)->(∀y∈l,b<=f y)->(l.filter fun y=>!decide (f y=b))=l.dropWhile fun y=>decide (f y=b)
 |[],_,_=>rfl
 |x::r,h,hb=>by
  have hp:=List.pairwise_cons.1 h
  by_cases hx:f x=b
  . rw[List.filter_cons,if_neg (by simp[hx]),List.dropWhile_cons,if_pos (by simp[hx])]
    exact aAR r hp.2 fun y hy=>hb y (Zo _ hy)
  . rw[List.dropWhile_cons,if_neg (by simp[hx]),List.filter_eq_self.2]
    intro y hy
    have h1:=hb x List.mem_cons_self
    have:b<f y:=by
     rcases List.mem_cons.1 hy with rfl|hy
     . omega
     . have:=hp.1 y hy;omega
    rw[decide_eq_false (by omega)];rfl
def fF(x:aP)(len b:Int):Bool:=decide (cY x.1 len=b)
namespace fF
def pre(_:aP)(len _:Int):Bool:=!decide (len=0)
abbrev wf(x0:aP)(x1:Int)(x2:Int):Prop:=hN [(.val zI .f),(.peek (.int .i64)),(.peek (.int .i64))] (x0,(x1,(x2,())))
noncomputable def aQ(x0:aP)(x1:Int)(x2:Int):Option mO:=
 if(!(decide (x1=(0:Int))))=true then
 some ((),((decide ((wrap .i64 (Int.tdiv x0.1 x1))=x2)),()))
 else
 none
theorem eq(x0:aP)(x1 x2:Int)(_:wf x0 x1 x2)(hp:pre x0 x1 x2=true):aQ x0 x1 x2=some ((),(fF x0 x1 x2,())):=bV hp rfl
end fF
def aLl(l:List aP):Prop:=(∀it∈l,0<=it.1/\it.1<=100000)/\l.Pairwise (fun a b=>a.1<b.1)
abbrev jP:bS->Int->Int->bS:=kG
namespace jP
abbrev S4:Type:=(Int×(Int×aDA))
abbrev O4:Type:=aDA
noncomputable def pre4:S4->Bool:=fun(x1,x2,_,_,_,_,_,_,_,x10,_)=>decide (0<=x1)&&(decide (1<=x2)&&(cH x10&&B (aLl x10)))
def lN:S4->Nat:=fun(_,_,_,_,_,_,_,_,_,x10,_)=>x10.length
def Q4(s:S4)(o:O4):Prop:=match s,o with
 |(x1,x2,_,_,_,_,x7,x8,_,x10,_),(_,_,_,_,y5,y6,_,y8,_)=>y6=x8/\(y5,y8)=oH x2 x1 (cY (wrap .i64 (x8-1)) x2) x10.length x7 x10
noncomputable def eA(x1:Int)(x2:Int)(x3:Int)(x4:Int)(x5:Unit)(x6:(List aP))(x7:Int)(x8:Int)(x9:Unit)(x10:(List aP)):Option ((Int×(Int×aDA))⊕aDA):=
 if(decide (x1<((length x10:Nat):Int)))=true then
 if(decide ((0:Int)<=(0:Int)))=true then
 if(decide ((0:Int)<((length x10:Nat):Int)))=true then
 if(!(decide (x2=(0:Int))))=true then
 if(!(decide (x2=(0:Int))))=true then
 if(!(decide ((wrap .i64 (Int.tdiv (List.getD x10 (Int.toNat (0:Int)) lL).1 x2))=(wrap .i64 (Int.tdiv (wrap .i64 (x8-(1:Int))) x2)))))=true then
 if(decide ((0:Int)<=(0:Int)))=true then
 if(decide ((0:Int)<((length x10:Nat):Int)))=true then
 if(!(decide (x2=(0:Int))))=true then
 if(cO.pre x10 ((fun x=>(fF.pre x x2 (wrap .i64 (Int.tdiv (List.getD x10 (Int.toNat (0:Int)) lL).1 x2)))),(fun x=>(fF x x2 (wrap .i64 (Int.tdiv (List.getD x10 (Int.toNat (0:Int)) lL).1 x2))))))=true then
 letB (cO x10 ((fun x=>(fF.pre x x2 (wrap .i64 (Int.tdiv (List.getD x10 (Int.toNat (0:Int)) lL).1 x2)))),(fun x=>(fF x x2 (wrap .i64 (Int.tdiv (List.getD x10 (Int.toNat (0:Int)) lL).1 x2)))))) fun v1=>
 some (.inl (x1,(x2,(x3,(x4,(x5,(x6,((wrap .i64 ((wrap .i64 ((wrap .i64 (Int.tdiv (List.getD x10 (Int.toNat (0:Int)) lL).1 x2))+(1:Int)))*x2)),(x8,(x9,(v1,())))))))))))
 else
 none
 else
 none
 else
 none
 else
 none
 else
 some (.inr (x3,(x4,(x5,(x6,(x7,(x8,(x9,(x10,())))))))))
 else
 none
 else
 none
 else
 none
 else
 none
 else
 some (.inr (x3,(x4,(x5,(x6,(x7,(x8,(x9,(x10,())))))))))
theorem wp4:∀s,pre4 s=true->Wp ((fun(x:S4)=>eA x.1 x.2.1 x.2.2.1 x.2.2.2.1 x.2.2.2.2.1 x.2.2.2.2.2.1 x.2.2.2.2.2.2.1 x.2.2.2.2.2.2.2.1 x.2.2.2.2.2.2.2.2.1 x.2.2.2.2.2.2.2.2.2.1) s) (iW pre4 lN Q4 s):=by
 rintro⟨x1,x2,x3,x4,⟨⟩,x6,x7,x8,⟨⟩,x10,⟨⟩⟩ hp
 simp only[pre4,Zb,Za,kZ] at hp
 obtain⟨h0,h1,hs,hi⟩:=hp
 have hs':=bW.1 hs
 show Wp (eA x1 x2 x3 x4 () x6 x7 x8 () x10) _
 unfold eA
 have hz:(!decide (x2=0))=true:=by simp only[Bool.not_eq_true',Zv];omega
 by_cases hlt:x1<(x10.length:Int)
 . match x10,hs,hs',hlt,hi with
   |[],_,_,hlt,_=>simp only[Zh] at hlt;omega
   |it::r,hs,hs',hlt,hi=>
    refine aL (Zd hlt) (aL (by decide) (aL (by simp only[Za,Zg];omega) (aL hz (aL hz (eG (fun c=>?_) fun c=>?_)))))
    . simp only[Bool.not_eq_true',Zv] at c
      have c:¬cY it.1 x2=cY (wrap .i64 (x8-1)) x2:=c
      have hb:∀y∈it::r,cY y.1 x2=y.1/x2:=fun y hy=>zA (hi.1 y hy).1 (hi.1 y hy).2 h1
      have hpw:=List.pairwise_cons.1 hi.2
      have hf:((it::r).filter fun y=>!fF y x2 (cY it.1 x2))=(it::r).dropWhile fun y=>decide (cY y.1 x2=cY it.1 x2):=by
       refine aAR (f:=fun y=>cY y.1 x2) (it::r) (List.Pairwise.imp_of_mem (fun{a b} ha hb' hab=>?_) hi.2) fun y hy=>?_
       . rw[hb a ha,hb b hb'];exact Int.ediv_le_ediv (by omega) (Int.le_of_lt hab)
       . rw[hb y hy,hb it List.mem_cons_self]
         refine Int.ediv_le_ediv (by omega) ?_
         rcases List.mem_cons.1 hy with rfl|hy
         . exact Int.le_refl _
         . exact Int.le_of_lt (hpw.1 y hy)
      refine aL (by decide) (aL (by simp only[Za,Zg];omega) (aL hz (aL ?_ (dB (aN ?_)))))
      . show(cH (it::r)&&(it::r).all _)=true
        rw[hs];exact Zu.2 fun y _=>hz
      . show iW pre4 lN Q4 _ (.inl (x1,(x2,(x3,(x4,((),(x6,((wrap .i64 (wrap .i64 (cY it.1 x2+1)*x2)),(x8,((),((it::r).filter fun y=>!fF y x2 (cY it.1 x2),())))))))))))
        rw[hf]
        have hd:((it::r).dropWhile fun y=>decide (cY y.1 x2=cY it.1 x2)).length<=r.length:=by
         rw[List.dropWhile_cons,if_pos (by simp)]
         exact sM r
        have hs2:r.length+1<=16777216:=by simpa using hs'
        have hsub:=vQ (p:=fun y:aP=>decide (cY y.1 x2=cY it.1 x2)) (it::r)
        refine⟨?_,?_,fun o ho=>?_⟩
        . simp only[pre4,Zb,Za,bW,kZ]
          exact⟨h0,h1,by omega,fun y hy=>hi.1 y (hsub.mem hy),hi.2.sublist hsub⟩
        . show length _<(it::r).length
          simp only[Zg];omega
        . refine⟨ho.1,ho.2.trans ?_⟩
          rw[Zg]
          conv=>rhs;unfold oH
          rw[if_pos ⟨hlt,c⟩]
          exact aAB _ _ _ _ (Nat.le_refl _) hd
    . simp only[Bool.not_eq_true',Zv,Decidable.not_not] at c
      have c:cY it.1 x2=cY (wrap .i64 (x8-1)) x2:=c
      refine aN ⟨rfl,?_⟩
      simp only[Zg,oH]
      rw[if_neg (fun h=>h.2 c)]
 . refine fP (by rw[Za];exact hlt) (aN ⟨rfl,?_⟩)
   match x10,hlt with
   |[],_=>rfl
   |it::r,hlt=>
    simp only[Zg,oH]
    rw[if_neg (fun h=>hlt h.1)]
noncomputable def fn4:S4->O4:=aCa (fun(x:S4)=>eA x.1 x.2.1 x.2.2.1 x.2.2.2.1 x.2.2.2.2.1 x.2.2.2.2.2.1 x.2.2.2.2.2.2.1 x.2.2.2.2.2.2.2.1 x.2.2.2.2.2.2.2.2.1 x.2.2.2.2.2.2.2.2.2.1) lN
theorem uM(x1 x2 x3 x4:Int)(x5:Unit)(x6:List aP)(x7 x8:Int)(x9:Unit)(x10:List aP)(hp:pre4 (x1,(x2,(x3,(x4,(x5,(x6,(x7,(x8,(x9,(x10,()))))))))))=true):
 Rounds pre4 lN fn4 (x1,(x2,(x3,(x4,(x5,(x6,(x7,(x8,(x9,(x10,())))))))))) (eA x1 x2 x3 x4 x5 x6 x7 x8 x9 x10):=sP wp4 hp
def pre(x:bS)(_ _:Int):Bool:=cH x.2.2.1
abbrev wf(x0:bS)(x1:Int)(x2:Int):Prop:=hN [(.val sZ .f),(.val (.int .i64) .f),(.val (.int .i64) .f)] (x0,(x1,(x2,())))
noncomputable def aQ(x0:bS)(x1:Int)(x2:Int):Option (Unit×(bS×Unit)):=
 if(bC.pre x0)=true then
 if(decide (x1<(1:Int)))=true then
 letB (bC x0) fun v1=>
 some ((),(v1,()))
 else
 if(decide (x2<(0:Int)))=true then
 letB (bC x0) fun v2=>
 some ((),(v2,()))
 else
 if(dW.pre x0)=true then
 letB (fN x0) fun v3=>
 if(!v3)=true then
 letB (bC x0) fun v4=>
 some ((),(v4,()))
 else
 letB (bC x0) fun v5=>
 if(jP.pre4 (x2,(x1,((0:Int),((0:Int),((),(([]:List aP),(v5.1,(v5.2.1,(v5.2.2.2,v5.2.2))))))))))=true then
 letB (jP.fn4 (x2,(x1,((0:Int),((0:Int),((),(([]:List aP),(v5.1,(v5.2.1,(v5.2.2.2,v5.2.2)))))))))) fun v6=>
 some ((),((v6.2.2.2.2.1,(v6.2.2.2.2.2.1,(v6.2.2.2.2.2.2.2.1,v6.2.2.2.2.2.2.1))),()))
 else
 none
 else
 none
 else
 none
theorem eq(x0:bS)(x1 x2:Int)(_:wf x0 x1 x2)(hp:pre x0 x1 x2=true):aQ x0 x1 x2=some ((),(kG x0 x1 x2,())):=by
 have hs:cH x0.2.2.1=true:=hp
 refine aET ?_
 unfold aQ
 rw[show bC x0=x0 from rfl]
 refine aL (show bC.pre x0=true from hs) ?_
 have no:(decide (1<=x1)&&(decide (0<=x2)&&fN x0))=false->kG x0 x1 x2=x0:=fun h=>if_neg (by rw[h];exact Bool.false_ne_true)
 by_cases c1:x1<1
 . exact aL (Zd c1) (dB (aN (no (by rw[decide_eq_false (p:=1<=x1) (by omega)];rfl)).symm))
 refine fP (by rw[Za];exact c1) ?_
 by_cases c2:x2<0
 . exact aL (Zd c2) (dB (aN (no (by rw[decide_eq_false (p:=0<=x2) (by omega),Bool.false_and,Bool.and_false])).symm))
 refine fP (by rw[Za];exact c2) (aL (show dW.pre x0=true from hs) (dB ?_))
 cases c3:fN x0
 . exact aL rfl (dB (aN (no (by rw[c3,Bool.and_false,Bool.and_false])).symm))
 refine fP (by decide) (dB ?_)
 have hr:=nN.1 c3
 have hq:pre4 (x2,(x1,((0:Int),((0:Int),((),(([]:List aP),(x0.1,(x0.2.1,(x0.2.2.2,x0.2.2)))))))))=true:=by
  simp only[pre4,Zb,Za,kZ]
  refine⟨by omega,by omega,hs,fun it hit=>?_,hr.2.2⟩
  have:=hr.2.1 it hit
  have:=hr.1
  omega
 rw[show kG x0 x1 x2=_ from if_pos (by rw[c3,Zd (p:=1<=x1) (by omega),Zd (p:=0<=x2) (by omega)];rfl)]
 refine aL hq (uJ (vO wp4 hq:Q4 _ (fn4 _)) ?_)
 rintro⟨_,_,_,_,y5,y6,⟨⟩,y8,⟨⟩⟩ ⟨q1,q2⟩
 refine aN ?_
 show(y5,(y6,(y8,())))=_
 rw[<-q2,q1]
end jP
def gC(x y:aP):Bool:=x.2.1==y.2.1
namespace gC
def pre(x _:aP):Bool:=decide (x.1=x.1)
abbrev wf(x0:aP)(x1:aP):Prop:=hN [(.val zI .f),(.peek zI)] (x0,(x1,()))
noncomputable def aQ(x0:aP)(x1:aP):Option mO:=
 some ((),((x0.2.1==x1.2.1),()))
theorem eq(x0 x1:aP)(_:wf x0 x1)(_:pre x0 x1=true):aQ x0 x1=some ((),(gC x0 x1,())):=rfl
end gC
abbrev jL:bS->Int->bS:=kN
namespace jL
abbrev S6:Type:=(Int×((List aP)×aDV))
abbrev O6:Type:=aDA
noncomputable def pre6:S6->Bool:=fun(x1,x2,x3,x4,x5,_,_,_,_,_,_,_,x13,_)=>decide (1<=x1)&&(cH x2&&(decide (x3=(x2.length:Int))&&(decide (0<=x4)&&(decide (x4<=(x2.length:Int))&&(decide ((x13.length:Int)<=x4)&&B (x5.2.2.1=x2))))))
def mu6:S6->Nat:=fun(_,x2,_,x4,_)=>x2.length-x4.toNat
def Q6(s:S6)(o:O6):Prop:=match s,o with
 |(x1,x2,_,x4,x5,_,_,_,_,x10,x11,_,x13,_),(_,_,_,_,y5,y6,_,y8,_)=>y5=x10/\y6=x11/\y8=x13++wC x1 (cY (wrap .i64 (x5.2.1-1)) x1) (x2.drop x4.toNat)
noncomputable def aE2(x1:Int)(x2:(List aP))(x3:Int)(x4:Int)(x5:bS)(x6:Int)(x7:Int)(x8:Unit)(x9:(List aP))(x10:Int)(x11:Int)(x12:Unit)(x13:(List aP)):Option ((Int×((List aP)×aDV))⊕aDA):=
 if(decide (x4<x3))=true then
 if(decide ((0:Int)<=x4))=true then
 if(decide (x4<((length x2:Nat):Int)))=true then
 if(!((List.getD x2 (Int.toNat x4) lL).2.1==([]:List UInt8)))=true then
 if(decide ((0:Int)<=(wrap .i64 (x4+(1:Int)))))=true then
 if(decide ((wrap .i64 (x4+(1:Int)))<=((length x5.2.2.1:Nat):Int)))=true then
 if(decide (((length x5.2.2.1:Nat):Int)<=((length x5.2.2.1:Nat):Int)))=true then
 if(dF.pre (aX (Int.toNat (wrap .i64 (x4+(1:Int)))) (Int.toNat ((length x5.2.2.1:Nat):Int)) x5.2.2.1) ((fun x=>(gC.pre x (List.getD x2 (Int.toNat x4) lL))),(fun x=>(gC x (List.getD x2 (Int.toNat x4) lL)))))=true then
 letB (dF (aX (Int.toNat (wrap .i64 (x4+(1:Int)))) (Int.toNat ((length x5.2.2.1:Nat):Int)) x5.2.2.1) ((fun x=>(gC.pre x (List.getD x2 (Int.toNat x4) lL))),(fun x=>(gC x (List.getD x2 (Int.toNat x4) lL))))) fun v1=>
 if(!v1)=true then
 if(decide (length x13+length ((List.getD x2 (Int.toNat x4) lL)::([]:List aP))<=hY))=true then
 some (.inl (x1,(x2,(x3,((wrap .i64 (x4+(1:Int))),(x5,(x6,(x7,(x8,(x9,(x10,(x11,(x12,((List.append x13 ((List.getD x2 (Int.toNat x4) lL)::([]:List aP))),()))))))))))))))
 else
 none
 else
 if(!(decide (x1=(0:Int))))=true then
 if(!(decide (x1=(0:Int))))=true then
 if(decide ((wrap .i64 (Int.tdiv (List.getD x2 (Int.toNat x4) lL).1 x1))=(wrap .i64 (Int.tdiv (wrap .i64 (x5.2.1-(1:Int))) x1))))=true then
 if(decide (length x13+length ((List.getD x2 (Int.toNat x4) lL)::([]:List aP))<=hY))=true then
 some (.inl (x1,(x2,(x3,((wrap .i64 (x4+(1:Int))),(x5,(x6,(x7,(x8,(x9,(x10,(x11,(x12,((List.append x13 ((List.getD x2 (Int.toNat x4) lL)::([]:List aP))),()))))))))))))))
 else
 none
 else
 some (.inl (x1,(x2,(x3,((wrap .i64 (x4+(1:Int))),(x5,(x6,(x7,(x8,(x9,(x10,(x11,(x12,(x13,()))))))))))))))
 else
 none
 else
 none
 else
 none
 else
 none
 else
 none
 else
 none
 else
 if(!false)=true then
 if(decide (length x13+length ((List.getD x2 (Int.toNat x4) lL)::([]:List aP))<=hY))=true then
 some (.inl (x1,(x2,(x3,((wrap .i64 (x4+(1:Int))),(x5,(x6,(x7,(x8,(x9,(x10,(x11,(x12,((List.append x13 ((List.getD x2 (Int.toNat x4) lL)::([]:List aP))),()))))))))))))))
 else
 none
 else
 if(!(decide (x1=(0:Int))))=true then
 if(!(decide (x1=(0:Int))))=true then
 if(decide ((wrap .i64 (Int.tdiv (List.getD x2 (Int.toNat x4) lL).1 x1))=(wrap .i64 (Int.tdiv (wrap .i64 (x5.2.1-(1:Int))) x1))))=true then
 if(decide (length x13+length ((List.getD x2 (Int.toNat x4) lL)::([]:List aP))<=hY))=true then
 some (.inl (x1,(x2,(x3,((wrap .i64 (x4+(1:Int))),(x5,(x6,(x7,(x8,(x9,(x10,(x11,(x12,((List.append x13 ((List.getD x2 (Int.toNat x4) lL)::([]:List aP))),()))))))))))))))
 else
 none
 else
 some (.inl (x1,(x2,(x3,((wrap .i64 (x4+(1:Int))),(x5,(x6,(x7,(x8,(x9,(x10,(x11,(x12,(x13,()))))))))))))))
 else
 none
 else
 none
 else
 none
 else
 none
 else
 some (.inr (x6,(x7,(x8,(x9,(x10,(x11,(x12,(x13,())))))))))
theorem wp6:∀s,pre6 s=true->Wp ((fun(x:S6)=>aE2 x.1 x.2.1 x.2.2.1 x.2.2.2.1 x.2.2.2.2.1 x.2.2.2.2.2.1 x.2.2.2.2.2.2.1 x.2.2.2.2.2.2.2.1 x.2.2.2.2.2.2.2.2.1 x.2.2.2.2.2.2.2.2.2.1 x.2.2.2.2.2.2.2.2.2.2.1 x.2.2.2.2.2.2.2.2.2.2.2.1 x.2.2.2.2.2.2.2.2.2.2.2.2.1) s) (iW pre6 mu6 Q6 s):=by
 rintro⟨x1,x2,x3,x4,x5,x6,x7,⟨⟩,x9,x10,x11,⟨⟩,x13,⟨⟩⟩ hp
 simp only[pre6,Zb,Za,kZ] at hp
 obtain⟨h0,hs,rfl,h1,h2,h3,rfl⟩:=hp
 have hs':=bW.1 hs
 show Wp (aE2 x1 x5.2.2.1 _ x4 x5 x6 x7 () x9 x10 x11 () x13) _
 unfold aE2
 by_cases hlt:x4<(x5.2.2.1.length:Int)
 . have hn:x4.toNat<x5.2.2.1.length:=by omega
   have e1:=Zn hn
   rw[cX hn,lF (n:=x4+1) (by omega) (by omega)]
   generalize hit:x5.2.2.1[x4.toNat]=it at *
   have hz:(!decide (x1=0))=true:=by simp only[Bool.not_eq_true',Zv];omega
   have hl:decide (x13.length+(it::([]:List aP)).length<=hY)=true:=by
    simp only[Za,Zg,Zh,hY];omega
   have hdt:aX (x4+1).toNat ((x5.2.2.1.length:Int)).toNat x5.2.2.1=x5.2.2.1.drop (x4.toNat+1):=by
    show List.take _ (List.drop _ _)=_
    rw[show(x4+1).toNat=x4.toNat+1 by omega]
    exact List.take_of_length_le (by rw[Zs];omega)
   rw[hdt]
   have nx:∀y:List aP,y.length<=1->wC x1 (cY (wrap .i64 (x5.2.1-1)) x1) (x5.2.2.1.drop x4.toNat)=y++wC x1 (cY (wrap .i64 (x5.2.1-1)) x1) (x5.2.2.1.drop (x4.toNat+1))->
    iW pre6 mu6 Q6 (x1,x5.2.2.1,(x5.2.2.1.length:Int),x4,x5,x6,x7,(),x9,x10,x11,(),x13,()) (.inl (x1,(x5.2.2.1,((x5.2.2.1.length:Int),((x4+1),(x5,(x6,(x7,((),(x9,(x10,(x11,((),(x13++y,())))))))))))))):=by
    intro y hy he
    refine⟨?_,by simp only[mu6];omega,?_⟩
    . simp only[pre6,Zb,Za,Zf,kZ];exact⟨h0,hs,trivial,by omega,by omega,by omega,trivial⟩
    . rintro⟨_,_,_,_,y5,y6,⟨⟩,y8,⟨⟩⟩ ⟨q1,q2,q3⟩
      refine⟨q1,q2,q3.trans ?_⟩
      rw[he,show(x4+1).toNat=x4.toNat+1 by omega,Zk]
   have nx1:(it.2.1==([]:List UInt8)||(!((x5.2.2.1.drop (x4.toNat+1)).any fun y=>y.2.1==it.2.1)||decide (cY it.1 x1=cY (wrap .i64 (x5.2.1-1)) x1)))=true->
    iW pre6 mu6 Q6 (x1,x5.2.2.1,(x5.2.2.1.length:Int),x4,x5,x6,x7,(),x9,x10,x11,(),x13,()) (.inl (x1,(x5.2.2.1,((x5.2.2.1.length:Int),((x4+1),(x5,(x6,(x7,((),(x9,(x10,(x11,((),(List.append x13 (it::([]:List aP)),())))))))))))))):=fun h=>
    nx [it] (by simp) (by rw[e1,tZ,h];rfl)
   have nx0:(it.2.1==([]:List UInt8)||(!((x5.2.2.1.drop (x4.toNat+1)).any fun y=>y.2.1==it.2.1)||decide (cY it.1 x1=cY (wrap .i64 (x5.2.1-1)) x1)))=false->
    iW pre6 mu6 Q6 (x1,x5.2.2.1,(x5.2.2.1.length:Int),x4,x5,x6,x7,(),x9,x10,x11,(),x13,()) (.inl (x1,(x5.2.2.1,((x5.2.2.1.length:Int),((x4+1),(x5,(x6,(x7,((),(x9,(x10,(x11,((),(x13,())))))))))))))):=fun h=>by
    have:=nx [] (by simp) (by rw[e1,tZ,h];rfl)
    rwa [List.append_nil] at this
   refine aL (Zd hlt) (aL (Zd h1) (aL (Zd hlt) (eG (fun c=>?_) fun c=>?_)))
   . have c:(it.2.1==([]:List UInt8))=false:=by cases h:(it.2.1==([]:List UInt8))<;>simp_all
     refine aL (Zd (by omega)) (aL (Zd (by omega)) (aL (Zd (Int.le_refl _)) (aL ?_ (dB ?_))))
     . show List.all _ _=true
       exact Zu.2 fun y _=>Zd rfl
     . show Wp (if(!((x5.2.2.1.drop (x4.toNat+1)).any fun y=>y.2.1==it.2.1))=true then _ else _) _
       refine eG (fun d=>aL hl (aN (nx1 (by rw[c,d];rfl)))) fun d=>?_
       have d:((x5.2.2.1.drop (x4.toNat+1)).any fun y=>y.2.1==it.2.1)=true:=by cases h:((x5.2.2.1.drop (x4.toNat+1)).any fun y=>y.2.1==it.2.1)<;>simp_all
       refine aL hz (aL hz (eG (fun f=>aL hl (aN (nx1 (by rw[c,d];exact f)))) fun f=>?_))
       rw[Za] at f
       have f:¬cY it.1 x1=cY (wrap .i64 (x5.2.1-1)) x1:=f
       exact aN (nx0 (by rw[c,d,decide_eq_false f];rfl))
   . have c:(it.2.1==([]:List UInt8))=true:=by cases h:(it.2.1==([]:List UInt8))<;>simp_all
     exact aL rfl (aL hl (aN (nx1 (by rw[c];rfl))))
 . refine fP (by rw[Za];exact hlt) (aN ⟨rfl,rfl,?_⟩)
   rw[Zt (by omega)]
   exact(List.append_nil _).symm
noncomputable def fn6:S6->O6:=aCa (fun(x:S6)=>aE2 x.1 x.2.1 x.2.2.1 x.2.2.2.1 x.2.2.2.2.1 x.2.2.2.2.2.1 x.2.2.2.2.2.2.1 x.2.2.2.2.2.2.2.1 x.2.2.2.2.2.2.2.2.1 x.2.2.2.2.2.2.2.2.2.1 x.2.2.2.2.2.2.2.2.2.2.1 x.2.2.2.2.2.2.2.2.2.2.2.1 x.2.2.2.2.2.2.2.2.2.2.2.2.1) mu6
theorem ok6(x1:Int)(x2:List aP)(x3 x4:Int)(x5:bS)(x6 x7:Int)(x8:Unit)(x9:List aP)(x10 x11:Int)(x12:Unit)(x13:List aP)(hp:pre6 (x1,(x2,(x3,(x4,(x5,(x6,(x7,(x8,(x9,(x10,(x11,(x12,(x13,())))))))))))))=true):
 Rounds pre6 mu6 fn6 (x1,(x2,(x3,(x4,(x5,(x6,(x7,(x8,(x9,(x10,(x11,(x12,(x13,()))))))))))))) (aE2 x1 x2 x3 x4 x5 x6 x7 x8 x9 x10 x11 x12 x13):=sP wp6 hp
def pre(x:bS)(_:Int):Bool:=cH x.2.2.1
abbrev wf(x0:bS)(x1:Int):Prop:=hN [(.val sZ .f),(.val (.int .i64) .f)] (x0,(x1,()))
noncomputable def aQ(x0:bS)(x1:Int):Option (Unit×(bS×Unit)):=
 if(bC.pre x0)=true then
 if(decide (x1<(1:Int)))=true then
 letB (bC x0) fun v1=>
 some ((),(v1,()))
 else
 if(dW.pre x0)=true then
 letB (fN x0) fun v2=>
 if(!v2)=true then
 letB (bC x0) fun v3=>
 some ((),(v3,()))
 else
 letB (bC x0) fun v4=>
 if(jL.pre6 (x1,(x0.2.2.1,(((length x0.2.2.1:Nat):Int),((0:Int),(x0,((0:Int),((0:Int),((),(([]:List aP),(v4.1,(v4.2.1,(v4.2.2.2,(([]:List aP),()))))))))))))))=true then
 letB (jL.fn6 (x1,(x0.2.2.1,(((length x0.2.2.1:Nat):Int),((0:Int),(x0,((0:Int),((0:Int),((),(([]:List aP),(v4.1,(v4.2.1,(v4.2.2.2,(([]:List aP),())))))))))))))) fun v5=>
 some ((),((v5.2.2.2.2.1,(v5.2.2.2.2.2.1,(v5.2.2.2.2.2.2.2.1,v5.2.2.2.2.2.2.1))),()))
 else
 none
 else
 none
 else
 none
theorem eq(x0:bS)(x1:Int)(_:wf x0 x1)(hp:pre x0 x1=true):aQ x0 x1=some ((),(kN x0 x1,())):=by
 have hs:cH x0.2.2.1=true:=hp
 refine aET ?_
 unfold aQ
 rw[show bC x0=x0 from rfl]
 have no:(decide (1<=x1)&&fN x0)=false->kN x0 x1=x0:=fun h=>if_neg (by rw[h];exact Bool.false_ne_true)
 refine aL (show bC.pre x0=true from hs) ?_
 by_cases c1:x1<1
 . exact aL (Zd c1) (dB (aN (no (by rw[decide_eq_false (p:=1<=x1) (by omega)];rfl)).symm))
 refine fP (by rw[Za];exact c1) (aL (show dW.pre x0=true from hs) (dB ?_))
 cases c3:fN x0
 . exact aL rfl (dB (aN (no (by rw[c3,Bool.and_false])).symm))
 have hq:pre6 (x1,(x0.2.2.1,((x0.2.2.1.length:Int),((0:Int),(x0,((0:Int),((0:Int),((),(([]:List aP),(x0.1,(x0.2.1,(x0.2.2.2,(([]:List aP),())))))))))))))=true:=by
  simp only[pre6,Zb,Za,Zh,kZ];exact⟨by omega,hs,trivial,by omega,by omega,by omega,trivial⟩
 rw[show kN x0 x1=_ from if_pos (by rw[c3,Zd (p:=1<=x1) (by omega)];rfl)]
 refine fP (by decide) (dB (aL hq (uJ (vO wp6 hq:Q6 _ (fn6 _)) ?_)))
 rintro⟨_,_,_,_,y5,y6,⟨⟩,y8,⟨⟩⟩ ⟨q1,q2,q3⟩
 refine aN ?_
 show(y5,(y6,(y8,())))=_
 rw[q1,q2,q3];rfl
end jL
theorem aGn{β γ:Type}{m:Option ((β×Unit)×(γ×Unit))}{v:β×γ}(h:Wp m fun r=>(r.1.1,r.2.1)=v):m=some ((v.1,()),(v.2,())):=by
 obtain⟨a,rfl,rfl⟩:=h
 rfl
def nE(k:bA)(s:aW)(c:eO):bA×aF:=wA s k c
namespace nE
noncomputable def pre(k:bA)(s:aW)(c:eO):Bool:=B (aAf s k c/\c.2.2.2.1<s.1)
abbrev wf(x0:bA)(x1:aW)(x2:eO):Prop:=hN [(.ref zk1 .o),(.val wW .f),(.val zk6 .f)] (x0,(x1,(x2,())))
noncomputable def aQ(x0:bA)(x1:aW)(x2:eO):Option ((bA×Unit)×yI):=
 if(fZ.pre x0.2.1 x2.2.2.2.1 x2.1)=true then
 letB (kL x0.2.1 x2.2.2.2.1 x2.1) fun v1=>
 if(dE.pre v1 x2.2.2.2.2.2.1 x2.2.2.2.2.1)=true then
 letB (dA v1 x2.2.2.2.2.2.1 x2.2.2.2.2.1) fun v2=>
 if(decide (v2.1=(1:Int)))=true then
 some ((x0,()),(((1:Int),(v2.2,(([]:List UInt8),(([]:List UInt8),())))),()))
 else
 if(decide (v2.1=(2:Int)))=true then
 some ((x0,()),(((2:Int),pQ),()))
 else
 if(decide (v2.1=(3:Int)))=true then
 some ((x0,()),(((3:Int),pQ),()))
 else
 if(decide (v2.1=(4:Int)))=true then
 some ((x0,()),(((4:Int),pQ),()))
 else
 if(decide ((0:Int)<=x2.2.2.2.1))=true then
 if(decide (x2.2.2.2.1<((length x0.1:Nat):Int)))=true then
 if(lB.pre (List.getD x0.1 (Int.toNat x2.2.2.2.1) pF) x2.2.2.2.2.2.2.1 x2.2.2.2.2.2.2.2.1 x2.1 x0.2.2.2.1)=true then
 letB (oE (List.getD x0.1 (Int.toNat x2.2.2.2.1) pF) x2.2.2.2.2.2.2.1 x2.2.2.2.2.2.2.2.1 x2.1 x0.2.2.2.1) fun v3=>
 if(!v3.2.2)=true then
 some ((x0,()),(((8:Int),pQ),()))
 else
 if(decide ((0:Int)<=x2.2.2.2.1))=true then
 if(decide (x2.2.2.2.1<((length x0.1:Nat):Int)))=true then
 if(kE.pre v1 x1.2.1 x2.2.2.2.2.2.1 x2.2.2.2.2.1 v3.2.1)=true then
 letB (jC v1 x1.2.1 x2.2.2.2.2.2.1 x2.2.2.2.2.1 v3.2.1) fun v4=>
 if(gG.pre x0.2.1 v4)=true then
 letB (oG x0.2.1 v4) fun v5=>
 some ((((List.modify x0.1 (Int.toNat x2.2.2.2.1) (fun z=>v3.1)),(v5,x0.2.2)),()),(((0:Int),(v3.2.1,(([]:List UInt8),(([]:List UInt8),())))),()))
 else
 none
 else
 none
 else
 none
 else
 none
 else
 none
 else
 none
 else
 none
 else
 none
 else
 none
theorem eq(x1:bA)(x0:aW)(x2:eO)(_:wf x1 x0 x2)(hp:pre x1 x0 x2=true):aQ x1 x0 x2=some (((nE x1 x0 x2).1,()),((nE x1 x0 x2).2,())):=by
 obtain⟨⟨hk,hc,hw⟩,hA⟩:=kZ.1 hp
 obtain⟨⟨h0,h1,h2,h3,h4,h5,h6⟩,k1,k2,k3,k4,k5⟩:=hk
 have hs:=iM h0
 have cf:=jX hc hw
 have hA0:=cf.2.2.2.1.1
 have hAl:x2.2.2.2.1<(x1.1.length:Int):=by omega
 have hr:fN (gK x1 x2)=true:=k1 _ (mL (by omega) _)
 have hms:=aGm (by omega) k5
 have hmk:=aAa (row:=x2.2.2.2.1) (who:=x2.1) (w:=x0.2.1) (fun m hm=>(k5.1 m hm).1) ⟨hA0,by omega⟩ ⟨hw,cf.1⟩ (by omega)
 refine aGn ?_
 unfold aQ
 refine aL (show fZ.pre _ _ _=true from hms) (dB (aL (show dE.pre _ _ _=true from zS hms) (dB ?_)))
 show Wp (if decide ((dA (nZ x1 x2) x2.2.2.2.2.2.1 x2.2.2.2.2.1).1=1)=true then some ((x1,()),(nM 1 (dA (nZ x1 x2) x2.2.2.2.2.2.1 x2.2.2.2.2.1).2,())) else _) (fun r=>(r.1.1,r.2.1)=wA x0 x1 x2)
 unfold wA
 refine eG (fun c1=>?_) fun c1=>?_
 . rw[Za] at c1;rw[if_pos c1];exact aN rfl
 rw[Za] at c1;rw[if_neg c1]
 refine eG (fun c2=>?_) fun c2=>?_
 . rw[Za] at c2
   rw[if_pos (show(dA (nZ x1 x2) x2.2.2.2.2.2.1 x2.2.2.2.2.1).1=2 from c2)];exact aN rfl
 rw[Za] at c2;rw[if_neg (show ¬(dA (nZ x1 x2) x2.2.2.2.2.2.1 x2.2.2.2.2.1).1=2 from c2)]
 refine eG (fun c3=>?_) fun c3=>?_
 . rw[Za] at c3
   rw[if_pos (show(dA (nZ x1 x2) x2.2.2.2.2.2.1 x2.2.2.2.2.1).1=3 from c3)];exact aN rfl
 rw[Za] at c3;rw[if_neg (show ¬(dA (nZ x1 x2) x2.2.2.2.2.2.1 x2.2.2.2.2.1).1=3 from c3)]
 refine eG (fun c4=>?_) fun c4=>?_
 . rw[Za] at c4
   rw[if_pos (show(dA (nZ x1 x2) x2.2.2.2.2.2.1 x2.2.2.2.2.1).1=4 from c4)];exact aN rfl
 rw[Za] at c4;rw[if_neg (show ¬(dA (nZ x1 x2) x2.2.2.2.2.2.1 x2.2.2.2.2.1).1=4 from c4)]
 refine aL (Zd hA0) (aL (Zd hAl) (aL (show lB.pre (gK x1 x2) _ _ _ _=true from(aG9 hr).1) (dB ?_)))
 show Wp (if(!(pL x0 x1 x2).2.2)=true then _ else _) _
 cases hb:(pL x0 x1 x2).2.2
 . exact aL rfl (aN rfl)
 refine fP (by decide) (aL (Zd hA0) (aL (Zd hAl) (aL (show kE.pre (nZ x1 x2) _ _ _ _=true from zS hms) (dB (aL ?_ (dB (aN rfl)))))))
 show(xR x1.2.1&&cH (jC (nZ x1 x2) x0.2.1 x2.2.2.2.2.2.1 x2.2.2.2.2.1 (pL x0 x1 x2).2.1).2.2.2.2.1)=true
 rw[hms,aDC];rfl
 have:=hmk.1.1.2.2.2.2.2.2.2.2.1
 show(kL _ _ _).2.2.2.2.1.length<=1000
 omega
end nE
def fL(k:bA)(s:aW)(c:eO):bA×aF:=vT s k c
namespace fL
noncomputable def pre(k:bA)(s:aW)(c:eO):Bool:=B (aAf s k c/\c.2.2.2.1<s.1)
abbrev wf(x0:bA)(x1:aW)(x2:eO):Prop:=hN [(.ref zk1 .o),(.val wW .f),(.val zk6 .f)] (x0,(x1,(x2,())))
noncomputable def aQ(x0:bA)(x1:aW)(x2:eO):Option ((bA×Unit)×yI):=
 if(decide (x2.2.2.1=(1:Int)))=true then
 if(nE.pre x0 x1 x2)=true then
 letB (nE x0 x1 x2) fun v1=>
 some ((v1.1,()),(v1.2,()))
 else
 none
 else
 if(decide (x2.2.2.1=(2:Int)))=true then
 if(decide ((0:Int)<=x2.2.2.2.1))=true then
 if(decide (x2.2.2.2.1<((length x0.1:Nat):Int)))=true then
 if(jU.pre (List.getD x0.1 (Int.toNat x2.2.2.2.1) pF) x2.2.2.2.2.1)=true then
 letB (lH (List.getD x0.1 (Int.toNat x2.2.2.2.1) pF) x2.2.2.2.2.1) fun v2=>
 if(decide (v2.2=(1:Int)))=true then
 some ((x0,()),(((6:Int),pQ),()))
 else
 if(decide (v2.2=(2:Int)))=true then
 some ((x0,()),(((7:Int),pQ),()))
 else
 some ((x0,()),(((0:Int),(v2.1.1,(v2.1.2.1,(v2.1.2.2.1,())))),()))
 else
 none
 else
 none
 else
 none
 else
 if(decide (x2.2.2.1=(3:Int)))=true then
 if(fZ.pre x0.2.1 x2.2.2.2.1 x2.1)=true then
 letB (kL x0.2.1 x2.2.2.2.1 x2.1) fun v3=>
 if(decide (x2.2.2.2.2.1<=v3.2.2.1))=true then
 some ((x0,()),(((4:Int),(v3.2.2.1,(([]:List UInt8),(([]:List UInt8),())))),()))
 else
 if(gG.pre x0.2.1 (x2.2.2.2.1,(x2.1,(x2.2.2.2.2.1,((-1:Int),(([]:List aY),()))))))=true then
 letB (oG x0.2.1 (x2.2.2.2.1,(x2.1,(x2.2.2.2.2.1,((-1:Int),(([]:List aY),())))))) fun v4=>
 some (((x0.1,(v4,x0.2.2)),()),(((0:Int),(x2.2.2.2.2.1,(([]:List UInt8),(([]:List UInt8),())))),()))
 else
 none
 else
 none
 else
 if(decide (x2.2.2.1=(9:Int)))=true then
 if(decide ((0:Int)<=x2.2.2.2.1))=true then
 if(decide (x2.2.2.2.1<((length x0.1:Nat):Int)))=true then
 if(jP.pre (List.getD x0.1 (Int.toNat x2.2.2.2.1) pF) x1.2.2.1 x1.2.2.2.1)=true then
 if(decide ((0:Int)<=x2.2.2.2.1))=true then
 if(decide (x2.2.2.2.1<((length x0.1:Nat):Int)))=true then
 if(decide ((0:Int)<=x2.2.2.2.1))=true then
 if(decide (x2.2.2.2.1<((length (List.modify x0.1 (Int.toNat x2.2.2.2.1) (fun z=>(kG (List.getD x0.1 (Int.toNat x2.2.2.2.1) pF) x1.2.2.1 x1.2.2.2.1))):Nat):Int)))=true then
 some ((((List.modify x0.1 (Int.toNat x2.2.2.2.1) (fun z=>(kG (List.getD x0.1 (Int.toNat x2.2.2.2.1) pF) x1.2.2.1 x1.2.2.2.1))),x0.2),()),(((0:Int),((List.getD (List.modify x0.1 (Int.toNat x2.2.2.2.1) (fun z=>(kG (List.getD x0.1 (Int.toNat x2.2.2.2.1) pF) x1.2.2.1 x1.2.2.2.1))) (Int.toNat x2.2.2.2.1) pF).1,(([]:List UInt8),(([]:List UInt8),())))),()))
 else
 none
 else
 none
 else
 none
 else
 none
 else
 none
 else
 none
 else
 none
 else
 if(decide ((0:Int)<=x2.2.2.2.1))=true then
 if(decide (x2.2.2.2.1<((length x0.1:Nat):Int)))=true then
 if(jL.pre (List.getD x0.1 (Int.toNat x2.2.2.2.1) pF) x1.2.2.1)=true then
 if(decide ((0:Int)<=x2.2.2.2.1))=true then
 if(decide (x2.2.2.2.1<((length x0.1:Nat):Int)))=true then
 if(decide ((0:Int)<=x2.2.2.2.1))=true then
 if(decide (x2.2.2.2.1<((length (List.modify x0.1 (Int.toNat x2.2.2.2.1) (fun z=>(kN (List.getD x0.1 (Int.toNat x2.2.2.2.1) pF) x1.2.2.1))):Nat):Int)))=true then
 some ((((List.modify x0.1 (Int.toNat x2.2.2.2.1) (fun z=>(kN (List.getD x0.1 (Int.toNat x2.2.2.2.1) pF) x1.2.2.1))),x0.2),()),(((0:Int),((List.getD (List.modify x0.1 (Int.toNat x2.2.2.2.1) (fun z=>(kN (List.getD x0.1 (Int.toNat x2.2.2.2.1) pF) x1.2.2.1))) (Int.toNat x2.2.2.2.1) pF).1,(([]:List UInt8),(([]:List UInt8),())))),()))
 else
 none
 else
 none
 else
 none
 else
 none
 else
 none
 else
 none
 else
 none
theorem eq(x1:bA)(x0:aW)(x2:eO)(_:wf x1 x0 x2)(hp:pre x1 x0 x2=true):aQ x1 x0 x2=some (((fL x1 x0 x2).1,()),((fL x1 x0 x2).2,())):=by
 obtain⟨⟨hk,hc,hw⟩,hA⟩:=kZ.1 hp
 obtain⟨⟨h0,h1,h2,h3,h4,h5,h6⟩,k1,k2,k3,k4,k5⟩:=hk
 have hs:=iM h0
 have cf:=jX hc hw
 have hA0:=cf.2.2.2.1.1
 have hAl:x2.2.2.2.1<(x1.1.length:Int):=by omega
 have hn:x2.2.2.2.1.toNat<x1.1.length:=by omega
 have hr:fN (gK x1 x2)=true:=k1 _ (mL hn _)
 have hrs:=(aG9 hr).2
 have hms:=aGm (by omega) k5
 have ml:∀g:bS,decide (x2.2.2.2.1<(((x1.1.modify x2.2.2.2.1.toNat (fun _=>g)).length:Nat):Int))=true:=fun g=>by rw[List.length_modify];exact Zd hAl
 refine aGn ?_
 unfold aQ
 show Wp (α:=(bA×Unit)×yI) _ (fun r=>(r.1.1,r.2.1)=vT x0 x1 x2)
 unfold vT
 refine eG (fun c1=>?_) fun c1=>?_
 . rw[Za] at c1;rw[if_pos c1]
   exact aL (show nE.pre x1 x0 x2=true from hp) (dB (aN rfl))
 rw[Za] at c1;rw[if_neg c1]
 refine eG (fun c3=>?_) fun c3=>?_
 . rw[Za] at c3;rw[if_neg (show ¬x2.2.2.1=3 by omega),if_pos c3]
   refine aL (Zd hA0) (aL (Zd hAl) (aL (show jU.pre (gK x1 x2) _=true from hrs) (dB (eG (fun d1=>?_) fun d1=>?_))))
   . rw[Za] at d1;rw[if_pos (show(lH (gK x1 x2) x2.2.2.2.2.1).2=1 from d1)];exact aN rfl
   rw[Za] at d1;rw[if_neg (show ¬(lH (gK x1 x2) x2.2.2.2.2.1).2=1 from d1)]
   refine eG (fun d2=>?_) fun d2=>?_
   . rw[Za] at d2;rw[if_pos (show(lH (gK x1 x2) x2.2.2.2.2.1).2=2 from d2)];exact aN rfl
   rw[Za] at d2;rw[if_neg (show ¬(lH (gK x1 x2) x2.2.2.2.2.1).2=2 from d2)]
   exact aN rfl
 rw[Za] at c3
 refine eG (fun c2=>?_) fun c2=>?_
 . rw[Za] at c2;rw[if_pos c2]
   refine aL (show fZ.pre _ _ _=true from hms) (dB ?_)
   show Wp (if decide (x2.2.2.2.2.1<=(nZ x1 x2).2.2.1)=true then some ((x1,()),(nM 4 (nZ x1 x2).2.2.1,())) else _) (fun r=>(r.1.1,r.2.1)=pX x1 x2)
   unfold pX
   refine eG (fun d1=>?_) fun d1=>?_
   . rw[Za] at d1;rw[if_pos d1];exact aN rfl
   . rw[Za] at d1;rw[if_neg d1]
     exact aL (show(xR x1.2.1&&cH ([]:List aY))=true by rw[hms];rfl) (dB (aN rfl))
 rw[Za] at c2;rw[if_neg c2,if_neg c3]
 refine eG (fun c4=>?_) fun c4=>?_
 . rw[Za] at c4;rw[if_pos c4]
   refine aL (Zd hA0) (aL (Zd hAl) (aL (show jP.pre (gK x1 x2) _ _=true from hrs) (aL (Zd hA0) (aL (Zd hAl) (aL (Zd hA0) (aL (ml _) (aN ?_)))))))
   show(aAp x1 x2.2.2.2.1 (kG (gK x1 x2) x0.2.2.1 x0.2.2.2.1),nM 0 ((x1.1.modify x2.2.2.2.1.toNat (fun _=>kG (gK x1 x2) x0.2.2.1 x0.2.2.2.1)).getD x2.2.2.2.1.toNat pF).1)=_
   rw[oK hn]
 . rw[Za] at c4;rw[if_neg c4]
   refine aL (Zd hA0) (aL (Zd hAl) (aL (show jL.pre (gK x1 x2) _=true from hrs) (aL (Zd hA0) (aL (Zd hAl) (aL (Zd hA0) (aL (ml _) (aN ?_)))))))
   show(aAp x1 x2.2.2.2.1 (kN (gK x1 x2) x0.2.2.1),nM 0 ((x1.1.modify x2.2.2.2.1.toNat (fun _=>kN (gK x1 x2) x0.2.2.1)).getD x2.2.2.2.1.toNat pF).1)=_
   rw[oK hn]
end fL
def dL(k:bA)(c:eO):bA×aF:=oT ((k.1.length:Int),((0:Int),nW)) k c
theorem aDd{s:aW}{k:bA}{c:eO}(h:mK s k):dL k c=oT s k c:=by
 unfold dL oT
 rw[show((k.1.length:Int),((0:Int),nW)).1=s.1 from h.1.2.1]
namespace dL
noncomputable def pre(k:bA)(c:eO):Bool:=B ((∃s,aAf s k c)/\c.2.2.2.1<2)
abbrev wf(x0:bA)(x1:eO):Prop:=hN [(.ref zk1 .o),(.val zk6 .f)] (x0,(x1,()))
noncomputable def aQ(x0:bA)(x1:eO):Option ((bA×Unit)×yI):=
 if(decide ((0:Int)<=x1.2.2.2.1))=true then
 if(decide (x1.2.2.2.1<((length x0.2.2.1:Nat):Int)))=true then
 if(decide (x1.2.2.1=(4:Int)))=true then
 if(iO.pre (List.getD x0.2.2.1 (Int.toNat x1.2.2.2.1) oB) x1.1 x0.2.2.2.1)=true then
 some (((x0.1,(x0.2.1,((List.modify x0.2.2.1 (Int.toNat x1.2.2.2.1) (fun z=>(jA (List.getD x0.2.2.1 (Int.toNat x1.2.2.2.1) oB) x1.1 x0.2.2.2.1))),x0.2.2.2))),()),(((0:Int),((List.getD (List.modify x0.2.2.1 (Int.toNat x1.2.2.2.1) (fun z=>(jA (List.getD x0.2.2.1 (Int.toNat x1.2.2.2.1) oB) x1.1 x0.2.2.2.1))) (Int.toNat x1.2.2.2.1) oB).1,(([]:List UInt8),(([]:List UInt8),())))),()))
 else
 none
 else
 if(decide (x1.2.2.1=(5:Int)))=true then
 if(iQ.pre (List.getD x0.2.2.1 (Int.toNat x1.2.2.2.1) oB) x1.1)=true then
 some (((x0.1,(x0.2.1,((List.modify x0.2.2.1 (Int.toNat x1.2.2.2.1) (fun z=>(fE (List.getD x0.2.2.1 (Int.toNat x1.2.2.2.1) oB) x1.1))),x0.2.2.2))),()),(((0:Int),((List.getD (List.modify x0.2.2.1 (Int.toNat x1.2.2.2.1) (fun z=>(fE (List.getD x0.2.2.1 (Int.toNat x1.2.2.2.1) oB) x1.1))) (Int.toNat x1.2.2.2.1) oB).1,(([]:List UInt8),(([]:List UInt8),())))),()))
 else
 none
 else
 if(decide (x1.2.2.1=(6:Int)))=true then
 if(iP.pre (List.getD x0.2.2.1 (Int.toNat x1.2.2.2.1) oB) x1.1 (List.getD x0.2.2.1 (Int.toNat x1.2.2.2.1) oB).1 x1.2.2.2.2.1 x1.2.2.2.2.2.1)=true then
 letB (gZ (List.getD x0.2.2.1 (Int.toNat x1.2.2.2.1) oB) x1.1 (List.getD x0.2.2.1 (Int.toNat x1.2.2.2.1) oB).1 x1.2.2.2.2.1 x1.2.2.2.2.2.1) fun v1=>
 if(!v1.2)=true then
 some ((x0,()),(((9:Int),pQ),()))
 else
 some (((x0.1,(x0.2.1,((List.modify x0.2.2.1 (Int.toNat x1.2.2.2.1) (fun z=>v1.1)),x0.2.2.2))),()),(((0:Int),(x1.2.2.2.2.2.1,(([]:List UInt8),(([]:List UInt8),())))),()))
 else
 none
 else
 if(decide (((length x0.1:Nat):Int)<=x1.2.2.2.2.1))=true then
 some ((x0,()),(((5:Int),pQ),()))
 else
 if(decide ((0:Int)<=x1.2.2.2.2.1))=true then
 if(decide (x1.2.2.2.2.1<((length (List.getD x0.2.2.1 (Int.toNat x1.2.2.2.1) oB).2.2.2.1:Nat):Int)))=true then
 some ((x0,()),(((0:Int),((List.getD (List.getD x0.2.2.1 (Int.toNat x1.2.2.2.1) oB).2.2.2.1 (Int.toNat x1.2.2.2.2.1) (0:Int)),(([]:List UInt8),(([]:List UInt8),())))),()))
 else
 none
 else
 none
 else
 none
 else
 none
theorem eq(x1:bA)(x2:eO)(_:wf x1 x2)(hp:pre x1 x2=true):aQ x1 x2=some (((dL x1 x2).1,()),((dL x1 x2).2,())):=by
 obtain⟨⟨x0,hk,hc,hw⟩,hA⟩:=kZ.1 hp
 rw[aDd hk]
 obtain⟨⟨h0,h1,h2,h3,h4,h5,h6⟩,k1,k2,k3,k4,k5⟩:=hk
 have hs:=iM h0
 have cf:=jX hc hw
 have hA0:=cf.2.2.2.1.1
 have hAl:x2.2.2.2.1<(x1.2.2.1.length:Int):=by omega
 have hn:x2.2.2.2.1.toNat<x1.2.2.1.length:=by omega
 have hg:iX (lE x1 x2) x0.1=true:=k2 _ (mL hn _)
 have hgs:=(aA2 hg hs.2.1).1
 have ho:=(gM.1 hg).1.2.1
 refine aGn ?_
 unfold aQ oT
 refine aL (Zd hA0) (aL (Zd hAl) ?_)
 show Wp (if decide (x2.2.2.1=4)=true then(if iO.pre (lE x1 x2) x2.1 x1.2.2.2.1=true then _ else none) else _) _
 by_cases c1:x2.2.2.1=4
 . rw[if_pos c1]
   refine aL (Zd c1) (aL (show iO.pre _ _ _=true from hgs) (aN ?_))
   show(sW x1 x2.2.2.2.1 (jA (lE x1 x2) x2.1 x1.2.2.2.1),nM 0 ((x1.2.2.1.modify x2.2.2.2.1.toNat (fun _=>jA (lE x1 x2) x2.1 x1.2.2.2.1)).getD x2.2.2.2.1.toNat oB).1)=_
   rw[oK hn]
 rw[if_neg c1]
 refine fP (by rw[Za];exact c1) ?_
 by_cases c2:x2.2.2.1=5
 . rw[if_pos c2]
   refine aL (Zd c2) (aL (show iQ.pre _ _=true from hgs) (aN ?_))
   show(sW x1 x2.2.2.2.1 (fE (lE x1 x2) x2.1),nM 0 ((x1.2.2.1.modify x2.2.2.2.1.toNat (fun _=>fE (lE x1 x2) x2.1)).getD x2.2.2.2.1.toNat oB).1)=_
   rw[oK hn]
 rw[if_neg c2]
 refine fP (by rw[Za];exact c2) ?_
 by_cases c3:x2.2.2.1=6
 . rw[if_pos c3]
   refine aL (Zd c3) (aL (show iP.pre (lE x1 x2) _ _ _ _=true from hgs) (dB ?_))
   show Wp (if(!(gZ (lE x1 x2) x2.1 (lE x1 x2).1 x2.2.2.2.2.1 x2.2.2.2.2.2.1).2)=true then _ else _) _
   cases h:(gZ (lE x1 x2) x2.1 (lE x1 x2).1 x2.2.2.2.2.1 x2.2.2.2.2.2.1).2
   . exact aL rfl (aN rfl)
   . exact fP (by decide) (aN rfl)
 rw[if_neg c3]
 refine fP (by rw[Za];exact c3) ?_
 by_cases c4:x0.1<=x2.2.2.2.2.1
 . rw[if_pos c4]
   exact aL (Zd (by omega)) (aN rfl)
 . rw[if_neg c4]
   exact fP (by rw[Za];omega) (aL (Zd cf.2.2.2.2.1.1) (aL (Zd (show x2.2.2.2.2.1<((lE x1 x2).2.2.2.1.length:Int) by omega)) (aN rfl)))
end dL
def kS(k:bA)(s:aW)(c:eO):bA×aF:=oU s k c
namespace kS
abbrev S5:Type:=(Int×(Int×aJX))
abbrev O5:Type:=aJX
def pre5:S5->Bool:=fun(x1,x2,x3,_,_,_,x7,_)=>decide (x1=(x7.length:Int))&&(decide (0<=x2)&&(decide (x2<=(x7.length:Int))&&(decide (x7.length<=1000)&&(x7.drop x2.toNat).all fun g=>qU g x3)))
def mu5:S5->Nat:=fun(_,x2,_,_,_,_,x7,_)=>x7.length-x2.toNat
def fn5:S5->O5:=fun(_,x2,x3,x4,x5,x6,x7,x8)=>(x3,x4,x5,x6,x7.take x2.toNat++(x7.drop x2.toNat).map (fun g=>mW g x3),x8)
noncomputable def rA(x1:Int)(x2:Int)(x3:Int)(x4:Unit)(x5:(List bS))(x6:(List aC))(x7:(List aD))(x8:(List Int))(x9:(List aF))(x10:aF):Option ((Int×(Int×aJX))⊕aJX):=
 if(decide (x2<x1))=true then
 if(decide ((0:Int)<=x2))=true then
 if(decide (x2<((length x7:Nat):Int)))=true then
 if(gR.pre (List.getD x7 (Int.toNat x2) oB) x3)=true then
 if(decide ((0:Int)<=x2))=true then
 if(decide (x2<((length x7:Nat):Int)))=true then
 some (.inl (x1,((wrap .i64 (x2+(1:Int))),(x3,(x4,(x5,(x6,((List.modify x7 (Int.toNat x2) (fun z=>(mW (List.getD x7 (Int.toNat x2) oB) x3))),(x8,(x9,(x10,())))))))))))
 else
 none
 else
 none
 else
 none
 else
 none
 else
 none
 else
 some (.inr (x3,(x4,(x5,(x6,(x7,(x8,(x9,(x10,())))))))))
abbrev wf(x0:bA)(x1:aW)(x2:eO):Prop:=hN [(.ref zk1 .o),(.val wW .f),(.val zk6 .f)] (x0,(x1,(x2,())))
noncomputable def aQ(x0:bA)(x1:aW)(x2:eO):Option ((bA×Unit)×yI):=
 if(decide (x2.2.2.1=(8:Int)))=true then
 if(kS.pre5 (((length x0.2.2.1:Nat):Int),((0:Int),((if(decide ((100000:Int)<(wrap .i64 (x0.2.2.2.1+x2.2.2.2.1))))=true then(100000:Int) else(wrap .i64 (x0.2.2.2.1+x2.2.2.2.1))),(x0.2.2.2.2.2.2,(x0.1,(x0.2.1,(x0.2.2.1,(x0.2.2.2.2.1,(x0.2.2.2.2.2.1,(((0:Int),pQ),())))))))))))=true then
 letB (kS.fn5 (((length x0.2.2.1:Nat):Int),((0:Int),((if(decide ((100000:Int)<(wrap .i64 (x0.2.2.2.1+x2.2.2.2.1))))=true then(100000:Int) else(wrap .i64 (x0.2.2.2.1+x2.2.2.2.1))),(x0.2.2.2.2.2.2,(x0.1,(x0.2.1,(x0.2.2.1,(x0.2.2.2.2.1,(x0.2.2.2.2.2.1,(((0:Int),pQ),()))))))))))) fun v1=>
 some (((v1.2.2.1,(v1.2.2.2.1,(v1.2.2.2.2.1,(v1.1,(v1.2.2.2.2.2.1,(v1.2.2.2.2.2.2.1,v1.2.1)))))),()),(((0:Int),(v1.1,(([]:List UInt8),(([]:List UInt8),())))),()))
 else
 none
 else
 if(decide (x2.2.2.1=(4:Int)))=true then
 if(decide (x2.2.2.1=(4:Int)))=true then
 if(decide ((2:Int)<=x2.2.2.2.1))=true then
 some ((x0,()),(((9:Int),pQ),()))
 else
 if(dL.pre x0 x2)=true then
 letB (dL x0 x2) fun v2=>
 some ((v2.1,()),(v2.2,()))
 else
 none
 else
 if(decide (((length x0.1:Nat):Int)<=x2.2.2.2.1))=true then
 some ((x0,()),(((5:Int),pQ),()))
 else
 if(fL.pre x0 x1 x2)=true then
 letB (fL x0 x1 x2) fun v3=>
 some ((v3.1,()),(v3.2,()))
 else
 none
 else
 if(decide (x2.2.2.1=(5:Int)))=true then
 if(decide (x2.2.2.1=(5:Int)))=true then
 if(decide ((2:Int)<=x2.2.2.2.1))=true then
 some ((x0,()),(((9:Int),pQ),()))
 else
 if(dL.pre x0 x2)=true then
 letB (dL x0 x2) fun v4=>
 some ((v4.1,()),(v4.2,()))
 else
 none
 else
 if(decide (((length x0.1:Nat):Int)<=x2.2.2.2.1))=true then
 some ((x0,()),(((5:Int),pQ),()))
 else
 if(fL.pre x0 x1 x2)=true then
 letB (fL x0 x1 x2) fun v5=>
 some ((v5.1,()),(v5.2,()))
 else
 none
 else
 if(decide (x2.2.2.1=(6:Int)))=true then
 if(decide (x2.2.2.1=(6:Int)))=true then
 if(decide ((2:Int)<=x2.2.2.2.1))=true then
 some ((x0,()),(((9:Int),pQ),()))
 else
 if(dL.pre x0 x2)=true then
 letB (dL x0 x2) fun v6=>
 some ((v6.1,()),(v6.2,()))
 else
 none
 else
 if(decide (((length x0.1:Nat):Int)<=x2.2.2.2.1))=true then
 some ((x0,()),(((5:Int),pQ),()))
 else
 if(fL.pre x0 x1 x2)=true then
 letB (fL x0 x1 x2) fun v7=>
 some ((v7.1,()),(v7.2,()))
 else
 none
 else
 if(decide (x2.2.2.1=(7:Int)))=true then
 if(decide ((2:Int)<=x2.2.2.2.1))=true then
 some ((x0,()),(((9:Int),pQ),()))
 else
 if(dL.pre x0 x2)=true then
 letB (dL x0 x2) fun v8=>
 some ((v8.1,()),(v8.2,()))
 else
 none
 else
 if(decide (((length x0.1:Nat):Int)<=x2.2.2.2.1))=true then
 some ((x0,()),(((5:Int),pQ),()))
 else
 if(fL.pre x0 x1 x2)=true then
 letB (fL x0 x1 x2) fun v9=>
 some ((v9.1,()),(v9.2,()))
 else
 none
theorem ok5(x1 x2 x3:Int)(x4:Unit)(x5:List bS)(x6:List aC)(x7:List aD)(x8:List Int)(x9:List aF)(x10:aF)(hp:pre5 (x1,(x2,(x3,(x4,(x5,(x6,(x7,(x8,(x9,(x10,()))))))))))=true):
 Rounds pre5 mu5 fn5 (x1,(x2,(x3,(x4,(x5,(x6,(x7,(x8,(x9,(x10,())))))))))) (rA x1 x2 x3 x4 x5 x6 x7 x8 x9 x10):=by
 simp only[pre5,Zb,Za,Zu] at hp
 obtain⟨rfl,h1,h2,h3,h4⟩:=hp
 unfold rA
 by_cases hlt:x2<(x7.length:Int)
 . have hn:x2.toNat<x7.length:=by omega
   have e1:=Zn hn
   have ht:qU x7[x2.toNat] x3=true:=h4 _ (by rw[e1];exact List.mem_cons_self)
   have es:(x2+1).toNat=x2.toNat+1:=by omega
   rw[cX hn,lF (n:=x2+1) (by omega) (by omega),nY]
   refine eQ (Zd hlt) (eQ (Zd h1) (eQ (Zd hlt) (eQ (show gR.pre _ _=true from ht) (eQ (Zd h1) (eQ (Zd hlt) ⟨?_,?_,?_⟩)))))
   . simp only[pre5,Zb,Za,Zu,List.length_set,es]
     refine⟨trivial,by omega,by omega,h3,fun g hg=>h4 g ?_⟩
     rw[List.drop_set_of_lt (by omega)] at hg
     rw[e1];exact Zo _ hg
   . simp only[mu5,List.length_set];omega
   . simp only[fn5,es]
     rw[List.drop_set_of_lt (by omega),e1,List.take_add_one,List.getElem?_set_self hn,List.take_set_of_le (Nat.le_refl _)]
     simp only[Option.toList,List.map_cons,Zk,List.cons_append,List.nil_append]
 . refine jJ (by rw[Za];exact hlt) ?_
   simp only[Rounds,fn5]
   rw[Zt (by omega),List.take_of_length_le (by omega)]
   simp
noncomputable def pre(k:bA)(s:aW)(c:eO):Bool:=B (aAf s k c)
theorem eq(x1:bA)(x0:aW)(x2:eO)(_:wf x1 x0 x2)(hp:pre x1 x0 x2=true):aQ x1 x0 x2=some (((kS x1 x0 x2).1,()),((kS x1 x0 x2).2,())):=by
 have hcp:=kZ.1 hp
 obtain⟨hk,hc,hw⟩:=hcp
 have hk':=hk
 obtain⟨⟨h0,h1,h2,h3,h4,h5,h6⟩,k1,k2,k3,k4,k5⟩:=hk'
 have hs:=iM h0
 have cf:=jX hc hw
 have tk:=aCY (kZ.1 hp)
 have hrow:∀{A:Option ((bA×Unit)×yI)},¬x2.2.2.1=8->aA x2.2.2.1 4 7=false->A=(if decide ((x1.1.length:Int)<=x2.2.2.2.1)=true then some ((x1,()),(nM 5 0,())) else if fL.pre x1 x0 x2=true then letB (fL x1 x0 x2) fun v=>some ((v.1,()),(v.2,())) else none)->Wp A (fun r=>(r.1.1,r.2.1)=oU x0 x1 x2):=by
  rintro A e8 ew rfl
  have e:oU x0 x1 x2=if x0.1<=x2.2.2.2.1 then(x1,nM 5 0) else vT x0 x1 x2:=by
   unfold oU
   rw[if_neg e8,ew];rfl
  rw[e]
  refine eG (fun c=>?_) fun c=>?_
  . rw[Za] at c
    rw[if_pos (show x0.1<=x2.2.2.2.1 by omega)];exact aN rfl
  . rw[Za] at c
    rw[if_neg (show ¬x0.1<=x2.2.2.2.1 by omega)]
    exact aL (show fL.pre x1 x0 x2=true from kZ.2 ⟨kZ.1 hp,by omega⟩) (dB (aN rfl))
 have hgrp:∀{A:Option ((bA×Unit)×yI)},¬x2.2.2.1=8->aA x2.2.2.1 4 7=true->A=(if decide ((2:Int)<=x2.2.2.2.1)=true then some ((x1,()),(nM 9 0,())) else if dL.pre x1 x2=true then letB (dL x1 x2) fun v=>some ((v.1,()),(v.2,())) else none)->Wp A (fun r=>(r.1.1,r.2.1)=oU x0 x1 x2):=by
  rintro A e8 ew rfl
  have e:oU x0 x1 x2=if 2<=x2.2.2.2.1 then(x1,nM 9 0) else oT x0 x1 x2:=by
   unfold oU
   rw[if_neg e8,ew];rfl
  rw[e]
  refine eG (fun c=>?_) fun c=>?_
  . rw[Za] at c
    rw[if_pos c];exact aN rfl
  . rw[Za] at c
    rw[if_neg c]
    refine aL (show dL.pre x1 x2=true from kZ.2 ⟨⟨x0,kZ.1 hp⟩,by omega⟩) (dB (aN ?_))
    rw[aDd hk]
 refine aGn ?_
 unfold aQ
 show Wp (α:=(bA×Unit)×yI) _ (fun r=>(r.1.1,r.2.1)=oU x0 x1 x2)
 have win:∀n:Int,aA n 4 7=true↔4<=n/\n<=7:=fun n=>by simp only[aA,Zb,Za]
 refine eG (fun c1=>?_) fun c1=>?_
 . rw[Za] at c1
   have ew:wrap .i64 (x1.2.2.2.1+x2.2.2.2.1)=x1.2.2.2.1+x2.2.2.2.1:=lF (by omega) (by omega)
   have et:(if decide ((100000:Int)<wrap .i64 (x1.2.2.2.1+x2.2.2.2.1))=true then(100000:Int) else wrap .i64 (x1.2.2.2.1+x2.2.2.2.1))=aAi x1 x2:=by
    rw[ew]
    unfold aAi aHc
    simp only[Za]
   rw[et]
   unfold oU
   rw[if_pos c1]
   refine aL ?_ (dB (aN ?_))
   . show(decide ((x1.2.2.1.length:Int)=(x1.2.2.1.length:Int))&&(decide ((0:Int)<=0)&&(decide ((0:Int)<=(x1.2.2.1.length:Int))&&(decide (x1.2.2.1.length<=1000)&&(x1.2.2.1.drop (Int.toNat 0)).all fun g=>qU g (aAi x1 x2)))))=true
     simp only[Zb,Za,Zu]
     exact⟨trivial,by omega,by omega,by omega,fun g hg=>aFS (k2 g hg) hs.2.1 tk.1 tk.2⟩
   . rfl
 rw[Za] at c1
 refine eG (fun c2=>?_) fun c2=>?_
 . rw[Za] at c2
   exact aL (Zd c2) (hgrp c1 ((win _).2 (by omega)) rfl)
 refine eG (fun c3=>?_) fun c3=>?_
 . rw[Za] at c3
   exact aL (Zd c3) (hgrp c1 ((win _).2 (by omega)) rfl)
 refine eG (fun c4=>?_) fun c4=>?_
 . rw[Za] at c4
   exact aL (Zd c4) (hgrp c1 ((win _).2 (by omega)) rfl)
 refine eG (fun c5=>?_) fun c5=>?_
 . rw[Za] at c5
   exact hgrp c1 ((win _).2 (by omega)) rfl
 rw[Za] at c2 c3 c4 c5
 refine hrow c1 ?_ rfl
 cases h:aA x2.2.2.1 4 7
 . rfl
 . have:=(win _).1 h
   omega
end kS
def jG(k:bA)(s:aW)(c:eO):bA×aF:=vB s k c
namespace jG
noncomputable def pre(k:bA)(s:aW)(c:eO):Bool:=B (mK s k/\rX c=true)
abbrev wf(x0:bA)(x1:aW)(x2:eO):Prop:=hN [(.ref zk1 .o),(.val wW .f),(.val zk6 .f)] (x0,(x1,(x2,())))
noncomputable def aQ(x0:bA)(x1:aW)(x2:eO):Option ((bA×Unit)×yI):=
 if(decide (x2.1=(-1:Int)))=true then
 some ((x0,()),(((0:Int),pQ),()))
 else
 if(decide ((0:Int)<=x2.1))=true then
 if(decide (x2.1<((length x0.2.2.2.2.1:Nat):Int)))=true then
 if(decide (x2.2.1<=(List.getD x0.2.2.2.2.1 (Int.toNat x2.1) (0:Int))))=true then
 if(decide ((0:Int)<=x2.1))=true then
 if(decide (x2.1<((length x0.2.2.2.2.2.1:Nat):Int)))=true then
 some ((x0,()),((List.getD x0.2.2.2.2.2.1 (Int.toNat x2.1) ((0:Int),pQ)),()))
 else
 none
 else
 none
 else
 if(kS.pre x0 x1 x2)=true then
 if(decide ((0:Int)<=x2.1))=true then
 letB (kS x0 x1 x2) fun v1=>
 if(decide (x2.1<((length v1.1.2.2.2.2.1:Nat):Int)))=true then
 if(decide ((0:Int)<=x2.1))=true then
 if(decide (x2.1<((length v1.1.2.2.2.2.2.1:Nat):Int)))=true then
 some (((v1.1.1,(v1.1.2.1,(v1.1.2.2.1,(v1.1.2.2.2.1,((List.modify v1.1.2.2.2.2.1 (Int.toNat x2.1) (fun z=>x2.2.1)),((List.modify v1.1.2.2.2.2.2.1 (Int.toNat x2.1) (fun z=>v1.2)),v1.1.2.2.2.2.2.2)))))),()),(v1.2,()))
 else
 none
 else
 none
 else
 none
 else
 none
 else
 none
 else
 none
 else
 none
theorem eq(x1:bA)(x0:aW)(x2:eO)(_:wf x1 x0 x2)(hp:pre x1 x0 x2=true):aQ x1 x0 x2=some (((jG x1 x0 x2).1,()),((jG x1 x0 x2).2,())):=by
 obtain⟨hk,hc⟩:=kZ.1 hp
 refine aGn ?_
 unfold aQ
 show Wp (α:=(bA×Unit)×yI) _ (fun r=>(r.1.1,r.2.1)=vB x0 x1 x2)
 unfold vB
 refine eG (fun c1=>?_) fun c1=>?_
 . rw[Za] at c1;rw[if_pos (show x2.1<0 by omega)]
   exact aN rfl
 rw[Za] at c1
 have hw:0<=x2.1:=by rcases aFJ hc with h|h<;>omega
 rw[if_neg (show ¬x2.1<0 by omega)]
 have cf:=jX hc hw
 have hd:x2.1<(x1.2.2.2.2.1.length:Int):=by have:=hk.1.2.2.2.1;omega
 have hl:x2.1<(x1.2.2.2.2.2.1.length:Int):=by have:=hk.1.2.2.2.2.1;omega
 have hcp:aAf x0 x1 x2:=⟨hk,hc,hw⟩
 have hn:=(aDg hcp).1.1
 refine aL (Zd hw) (aL (Zd hd) (eG (fun c2=>?_) fun c2=>?_))
 . rw[Za] at c2;rw[if_pos c2]
   exact aL (Zd hw) (aL (Zd hl) (aN rfl))
 . rw[Za] at c2;rw[if_neg c2]
   exact aL (show kS.pre x1 x0 x2=true from kZ.2 hcp) (aL (Zd hw) (dB (aL (Zd (show x2.1<((oU x0 x1 x2).1.2.2.2.2.1.length:Int) by have:=hn.2.2.2.1;omega)) (aL (Zd hw) (aL (Zd (show x2.1<((oU x0 x1 x2).1.2.2.2.2.2.1.length:Int) by have:=hn.2.2.2.2.1;omega)) (aN rfl))))))
end jG
def aEz(s:aW)(k:bA):Prop:=aEq k=true/\(fD s=true->mK s k)
theorem aHq{s:aW}{k:bA}{c:eO}(h:aEz s k):aEz s (qN s k c).1:=by
 have h2:=(aD4 (c:=c) h.2).1
 refine⟨?_,h2⟩
 cases hs:fD s
 . unfold qN;rw[hs];exact h.1
 . exact aH5 (h2 hs)
theorem aIm(s:aW):aEz s (gW s):=by
 refine⟨?_,aA3⟩
 cases hs:fD s
 . rw[show gW s=_ from if_neg (by rw[hs];exact Bool.false_ne_true)];rfl
 . exact aH5 (aA3 hs)
abbrev kY:aW->bA->eO->bA×aF:=qN
namespace kY
noncomputable def pre(s:aW)(k:bA)(_:eO):Bool:=B (aEz s k)
abbrev wf(x0:aW)(x1:bA)(x2:eO):Prop:=hN [(.val wW .f),(.val zk1 .f),(.val zk6 .f)] (x0,(x1,(x2,())))
noncomputable def aQ(x0:aW)(x1:bA)(x2:eO):Option (Unit×(bA×yI)):=
 if(eB.pre x1)=true then
 if(fY.pre x0 x1)=true then
 letB (fY x0 x1) fun v1=>
 if(!v1)=true then
 letB (eB x1) fun v2=>
 some ((),(v2,(((0:Int),pQ),())))
 else
 letB (rX x2) fun v3=>
 if(!v3)=true then
 letB (eB x1) fun v4=>
 some ((),(v4,(((0:Int),pQ),())))
 else
 letB (eB x1) fun v5=>
 if(jG.pre v5 x0 x2)=true then
 letB (jG v5 x0 x2) fun v6=>
 some ((),(v6.1,(v6.2,())))
 else
 none
 else
 none
 else
 none
theorem eq(x0:aW)(x1:bA)(x2:eO)(_:wf x0 x1 x2)(hp:pre x0 x1 x2=true):aQ x0 x1 x2=some ((),((qN x0 x1 x2).1,((qN x0 x1 x2).2,()))):=by
 obtain⟨hS,hP⟩:=kZ.1 hp
 have e:fY x0 x1=fD x0:=by
  cases hs:fD x0
  . unfold fY aD0;rw[hs];rfl
  . exact aIx (hP hs)
 refine yN ?_
 unfold aQ
 rw[show eB x1=x1 from rfl]
 refine aL (show eB.pre x1=true from hS) (aL (show fY.pre x0 x1=true from hS) (dB ?_))
 rw[e]
 unfold qN
 cases hs:fD x0
 . exact aL rfl (dB (aN rfl))
 refine fP (by decide) (dB ?_)
 cases hc:rX x2
 . exact aL rfl (dB (aN rfl))
 exact fP (by decide) (dB (aL (show jG.pre x1 x0 x2=true from kZ.2 ⟨hP hs,hc⟩) (dB (aN rfl))))
end kY
abbrev fJ:aW->List eO->bA×List aF:=nL
namespace fJ
abbrev S4:Type:=((List eO)×(Int×(Int×(aW×aKy))))
abbrev O4:Type:=aKy
noncomputable def pre4:S4->Bool:=fun(x1,x2,x3,x4,_,_,_,_,_,_,_,x12,x13,x14,x15,x16,x17,x18,x19,_)=>cH x1&&(decide (x2=(x1.length:Int))&&(decide (0<=x3)&&(decide (x3<=(x1.length:Int))&&(decide ((x19.length:Int)=x3)&&B (aEz x4 (x14,(x15,(x16,(x12,(x17,(x18,x13)))))))))))
def lN:S4->Nat:=fun(x1,_,x3,_)=>x1.length-x3.toNat
def Q4(s:S4)(o:O4):Prop:=match s,o with
 |(x1,_,x3,x4,_,_,_,_,_,_,_,x12,x13,x14,x15,x16,x17,x18,x19,_),(_,_,_,_,_,_,_,o12,o13,o14,o15,o16,o17,o18,o19,_)=>
  ((o14,(o15,(o16,(o12,(o17,(o18,o13)))))),o19)=xA x4 (x14,(x15,(x16,(x12,(x17,(x18,x13)))))) x19 (x1.drop x3.toNat)
noncomputable def eA(x1:(List eO))(x2:Int)(x3:Int)(x4:aW)(x5:Int)(x6:Unit)(x7:(List bS))(x8:(List aC))(x9:(List aD))(x10:(List Int))(x11:(List aF))(x12:Int)(x13:Unit)(x14:(List bS))(x15:(List aC))(x16:(List aD))(x17:(List Int))(x18:(List aF))(x19:(List aF)):Option (((List eO)×(Int×(Int×(aW×aKy))))⊕aKy):=
 if(decide (x3<x2))=true then
 if(decide ((0:Int)<=x3))=true then
 if(decide (x3<((length x1:Nat):Int)))=true then
 if(kY.pre x4 (x14,(x15,(x16,(x12,(x17,(x18,x13)))))) (List.getD x1 (Int.toNat x3) sH))=true then
 letB (kY x4 (x14,(x15,(x16,(x12,(x17,(x18,x13)))))) (List.getD x1 (Int.toNat x3) sH)) fun v1=>
 if(decide (length x19+length (v1.2::([]:List aF))<=hY))=true then
 some (.inl (x1,(x2,((wrap .i64 (x3+(1:Int))),(x4,(x5,(x6,(x7,(x8,(x9,(x10,(x11,(v1.1.2.2.2.1,(v1.1.2.2.2.2.2.2,(v1.1.1,(v1.1.2.1,(v1.1.2.2.1,(v1.1.2.2.2.2.1,(v1.1.2.2.2.2.2.1,((List.append x19 (v1.2::([]:List aF))),()))))))))))))))))))))
 else
 none
 else
 none
 else
 none
 else
 none
 else
 some (.inr (x5,(x6,(x7,(x8,(x9,(x10,(x11,(x12,(x13,(x14,(x15,(x16,(x17,(x18,(x19,()))))))))))))))))
theorem wp4:∀s,pre4 s=true->Wp ((fun(x:S4)=>eA x.1 x.2.1 x.2.2.1 x.2.2.2.1 x.2.2.2.2.1 x.2.2.2.2.2.1 x.2.2.2.2.2.2.1 x.2.2.2.2.2.2.2.1 x.2.2.2.2.2.2.2.2.1 x.2.2.2.2.2.2.2.2.2.1 x.2.2.2.2.2.2.2.2.2.2.1 x.2.2.2.2.2.2.2.2.2.2.2.1 x.2.2.2.2.2.2.2.2.2.2.2.2.1 x.2.2.2.2.2.2.2.2.2.2.2.2.2.1 x.2.2.2.2.2.2.2.2.2.2.2.2.2.2.1 x.2.2.2.2.2.2.2.2.2.2.2.2.2.2.2.1 x.2.2.2.2.2.2.2.2.2.2.2.2.2.2.2.2.1 x.2.2.2.2.2.2.2.2.2.2.2.2.2.2.2.2.2.1 x.2.2.2.2.2.2.2.2.2.2.2.2.2.2.2.2.2.2.1) s) (iW pre4 lN Q4 s):=by
 rintro⟨x1,x2,x3,x4,x5,x6,x7,x8,x9,x10,x11,x12,x13,x14,x15,x16,x17,x18,x19,⟨⟩⟩ hp
 simp only[pre4,Zb,Za,kZ] at hp
 obtain⟨hs,rfl,h1,h2,h3,hk⟩:=hp
 have hs':=bW.1 hs
 show Wp (eA x1 _ x3 x4 x5 x6 x7 x8 x9 x10 x11 x12 x13 x14 x15 x16 x17 x18 x19) _
 unfold eA
 generalize hK:((x14,(x15,(x16,(x12,(x17,(x18,x13)))))):bA)=K at hk ⊢
 have q14:x14=K.1:=by rw[<-hK]
 have q15:x15=K.2.1:=by rw[<-hK]
 have q16:x16=K.2.2.1:=by rw[<-hK]
 have q12:x12=K.2.2.2.1:=by rw[<-hK]
 have q17:x17=K.2.2.2.2.1:=by rw[<-hK]
 have q18:x18=K.2.2.2.2.2.1:=by rw[<-hK]
 clear hK
 subst q14 q15 q16 q12 q17 q18
 by_cases hlt:x3<(x1.length:Int)
 . have hn:x3.toNat<x1.length:=by omega
   have e1:=Zn hn
   rw[cX hn,lF (n:=x3+1) (by omega) (by omega)]
   have hl:∀a:aF,decide (x19.length+(a::([]:List aF)).length<=hY)=true:=fun a=>by
    simp only[Za,Zg,Zh,hY];omega
   refine aL (Zd hlt) (aL (Zd h1) (aL (Zd hlt) (aL (show kY.pre x4 K x1[x3.toNat]=true from kZ.2 hk) (dB (aL (hl _) (aN ⟨?_,by simp only[lN];omega,?_⟩))))))
   . simp only[pre4,Zb,Za,kZ,List.append_eq,Zf,Zg,Zh]
     exact⟨hs,trivial,by omega,by omega,by omega,aHq hk⟩
   . rintro⟨_,_,_,_,_,_,_,o12,o13,o14,o15,o16,o17,o18,o19,⟨⟩⟩ ho
     refine ho.trans ?_
     show xA x4 (qN x4 K x1[x3.toNat]).1 (x19++[(qN x4 K x1[x3.toNat]).2]) (x1.drop (x3+1).toNat)=xA x4 K x19 (x1.drop x3.toNat)
     rw[e1,show(x3+1).toNat=x3.toNat+1 by omega]
     simp only[xA]
 . refine fP (by rw[Za];exact hlt) (aN ?_)
   show(K,x19)=xA x4 K x19 (x1.drop x3.toNat)
   rw[Zt (by omega)];rfl
noncomputable def fn4:S4->O4:=aCa (fun(x:S4)=>eA x.1 x.2.1 x.2.2.1 x.2.2.2.1 x.2.2.2.2.1 x.2.2.2.2.2.1 x.2.2.2.2.2.2.1 x.2.2.2.2.2.2.2.1 x.2.2.2.2.2.2.2.2.1 x.2.2.2.2.2.2.2.2.2.1 x.2.2.2.2.2.2.2.2.2.2.1 x.2.2.2.2.2.2.2.2.2.2.2.1 x.2.2.2.2.2.2.2.2.2.2.2.2.1 x.2.2.2.2.2.2.2.2.2.2.2.2.2.1 x.2.2.2.2.2.2.2.2.2.2.2.2.2.2.1 x.2.2.2.2.2.2.2.2.2.2.2.2.2.2.2.1 x.2.2.2.2.2.2.2.2.2.2.2.2.2.2.2.2.1 x.2.2.2.2.2.2.2.2.2.2.2.2.2.2.2.2.2.1 x.2.2.2.2.2.2.2.2.2.2.2.2.2.2.2.2.2.2.1) lN
theorem uM(x1:List eO)(x2 x3:Int)(x4:aW)(x5:Int)(x6:Unit)(x7:List bS)(x8:List aC)(x9:List aD)(x10:List Int)(x11:List aF)(x12:Int)(x13:Unit)(x14:List bS)(x15:List aC)(x16:List aD)(x17:List Int)(x18 x19:List aF)(hp:pre4 (x1,(x2,(x3,(x4,(x5,(x6,(x7,(x8,(x9,(x10,(x11,(x12,(x13,(x14,(x15,(x16,(x17,(x18,(x19,())))))))))))))))))))=true):
 Rounds pre4 lN fn4 (x1,(x2,(x3,(x4,(x5,(x6,(x7,(x8,(x9,(x10,(x11,(x12,(x13,(x14,(x15,(x16,(x17,(x18,(x19,()))))))))))))))))))) (eA x1 x2 x3 x4 x5 x6 x7 x8 x9 x10 x11 x12 x13 x14 x15 x16 x17 x18 x19):=sP wp4 hp
def pre(_:aW)(l:List eO):Bool:=cH l
abbrev wf(x0:aW)(x1:(List eO)):Prop:=hN [(.val wW .f),(.val (.sl 0 zk6) .f)] (x0,(x1,()))
noncomputable def aQ(x0:aW)(x1:(List eO)):Option (Unit×(bA×((List aF)×Unit))):=
 if(iC.pre x0)=true then
 letB (gW x0) fun v1=>
 if(fJ.pre4 (x1,(((length x1:Nat):Int),((0:Int),(x0,((0:Int),((),(([]:List bS),(([]:List aC),(([]:List aD),(([]:List Int),(([]:List aF),(v1.2.2.2.1,(v1.2.2.2.2.2.2,(v1.1,(v1.2.1,(v1.2.2.1,(v1.2.2.2.2.1,(v1.2.2.2.2.2.1,(([]:List aF),()))))))))))))))))))))=true then
 letB (fJ.fn4 (x1,(((length x1:Nat):Int),((0:Int),(x0,((0:Int),((),(([]:List bS),(([]:List aC),(([]:List aD),(([]:List Int),(([]:List aF),(v1.2.2.2.1,(v1.2.2.2.2.2.2,(v1.1,(v1.2.1,(v1.2.2.1,(v1.2.2.2.2.1,(v1.2.2.2.2.2.1,(([]:List aF),())))))))))))))))))))) fun v2=>
 some ((),((v2.2.2.2.2.2.2.2.2.2.1,(v2.2.2.2.2.2.2.2.2.2.2.1,(v2.2.2.2.2.2.2.2.2.2.2.2.1,(v2.2.2.2.2.2.2.2.1,(v2.2.2.2.2.2.2.2.2.2.2.2.2.1,(v2.2.2.2.2.2.2.2.2.2.2.2.2.2.1,v2.2.2.2.2.2.2.2.2.1)))))),v2.2.2.2.2.2.2.2.2.2.2.2.2.2.2))
 else
 none
 else
 none
theorem eq(x0:aW)(x1:List eO)(_:wf x0 x1)(hp:pre x0 x1=true):aQ x0 x1=some ((),((nL x0 x1).1,((nL x0 x1).2,()))):=by
 have hs:cH x1=true:=hp
 refine yN ?_
 unfold aQ
 have hq:pre4 (x1,((x1.length:Int),((0:Int),(x0,((0:Int),((),(([]:List bS),(([]:List aC),(([]:List aD),(([]:List Int),(([]:List aF),((gW x0).2.2.2.1,((gW x0).2.2.2.2.2.2,((gW x0).1,((gW x0).2.1,((gW x0).2.2.1,((gW x0).2.2.2.2.1,((gW x0).2.2.2.2.2.1,(([]:List aF),())))))))))))))))))))=true:=by
  show(cH x1&&(decide ((x1.length:Int)=(x1.length:Int))&&(decide ((0:Int)<=0)&&(decide ((0:Int)<=(x1.length:Int))&&(decide (((([]:List aF).length:Nat):Int)=0)&&B (aEz x0 (gW x0)))))))=true
  simp only[Zb,Za,kZ]
  exact⟨hs,trivial,by omega,by omega,rfl,aIm x0⟩
 refine aL (show iC.pre x0=true from rfl) (dB (aL hq (uJ (vO wp4 hq:Q4 _ (fn4 _)) ?_)))
 rintro⟨_,_,_,_,_,_,_,o12,o13,o14,o15,o16,o17,o18,o19,⟨⟩⟩ ho
 exact aN ho
end fJ
theorem aJD{α β:Type}{a b:β}{f:β->Option α}{v:Option α}(h:a=b)(r:f b=v):letB a f=v:=by subst h;exact r
theorem nP{α:Type}{g:α->Int}{c:Int}:(xs:List α)->(∀x∈xs,g x<=c)->bK g xs<=xs.length*c
 |[],_=>by simp[bK]
 |a::r,h=>by
  have h1:=h a List.mem_cons_self
  have h2:=nP r fun x hx=>h x (Zo _ hx)
  have e:((r.length+1:Nat):Int)*c=r.length*c+c:=by
   rw[Int.natCast_add,Int.add_mul];simp
  simp only[bK,Zg]
  rw[e];omega
theorem aHY{s:aW}(h:fD s=false):(l:List eO)->(k:bA)->(out:List aF)->(xA s k out l).1=k
 |[],_,_=>rfl
 |c::r,k,out=>by
  simp only[xA]
  rw[aHY h r]
  unfold qN
  rw[h];rfl
theorem aGR{s:aW}(h:fD s=false)(l:List eO):(nL s l).1=gW s:=aHY h l _ _
theorem aH9{s:aW}(h:fD s=false):gW s=aL0:=if_neg (by rw[h];exact Bool.false_ne_true)
theorem aMi{l:List Int}(h:l.Pairwise (·< ·))(h2:∀m∈l,0<=m/\m<=3):l.length<=4:=by
 have:=aCs (f:=fun m:Int=>m) (n:=4) l 0 (fun m hm=>by have:=h2 m hm;omega) h
 omega
theorem aIz{s:aW}{k:bA}(h:mK s k):eD k<=10000:=by
 obtain⟨⟨h0,h1,h2,h3,h4,h5,h6⟩,k1,k2,k3,k4,k5⟩:=h
 have hs:=iM h0
 have hm:=aI6 k5
 have r1:∀r∈k.1,cL r<=500:=fun r hr=>by
  have:=(nN.1 (k1 r hr)).1.2.2.2
  have h1:=nP (g:=fQ) (c:=5) r.2.2.1 fun _ _=>Int.le_refl _
  simp only[cL];omega
 have m1:∀m∈k.2.1,bM m<=50:=fun m hm=>by
  obtain⟨⟨⟨_,_,_,_,_,_,_,_,h9,_⟩,_⟩,_⟩:=k5.1 m hm
  have h1:=nP (g:=fO) (c:=2) m.2.2.2.2.1 fun _ _=>Int.le_refl _
  simp only[bM];omega
 have g1:∀g∈k.2.2.1,cD g<=50:=fun g hg=>by
  have hg':=gM.1 (k2 g hg)
  have hl:=aMi hg'.2.2.1 hg'.2.1
  have e1:=nP (g:=bQ) (c:=1) g.2.1 fun _ _=>Int.le_refl _
  have e2:=nP (g:=bQ) (c:=1) g.2.2.1 fun _ _=>Int.le_refl _
  have e3:=nP (g:=bQ) (c:=1) g.2.2.2.1 fun _ _=>Int.le_refl _
  have e4:=hg'.1.1
  have e5:=hg'.1.2.1
  simp only[cD];omega
 have b1:=nP k.1 r1
 have b2:=nP k.2.1 m1
 have b3:=nP k.2.2.1 g1
 have b4:=nP (g:=bQ) (c:=1) k.2.2.2.2.1 fun _ _=>Int.le_refl _
 have b5:=nP (g:=cM) (c:=4) k.2.2.2.2.2.1 fun _ _=>Int.le_refl _
 simp only[eD]
 omega
theorem aFQ(s:aW)(l:List eO):eD (nL s l).1<=10000:=by
 cases h:fD s
 . rw[aGR h,aH9 h];decide
 . exact aIz ((aDO (l:=l)).1 h)
theorem aK4(xs:List aF)(k:Int):bN (oL mE cM xs k) k=k+bK cM xs:=
 aI8 (fun x k=>kO gA x k) (fun x k=>sO gA x k) xs k
def hZ(_:aW)(_:List eO):Bool:=true
namespace hZ
abbrev wf(x0:aW)(x1:(List eO)):Prop:=hN [(.val wW .f),(.val (.sl 0 zk6) .f)] (x0,(x1,()))
noncomputable def aQ(x0:aW)(x1:(List eO)):Option mO:=
 if(fX.pre x1 (1048576:Int))=true then
 letB (fX x1 (1048576:Int)) fun v1=>
 if(decide (v1<(0:Int)))=true then
 some ((),(true,()))
 else
 if(eW.pre x1)=true then
 letB (kI x0) fun v2=>
 letB (eW x1) fun v3=>
 if(gQ.pre v2 v3)=true then
 if(eW.pre x1)=true then
 if(fJ.pre v2 v3)=true then
 letB (fJ v2 v3) fun v4=>
 letB (gQ v2 v3) fun v5=>
 letB (jZ v4.1 v5.1) fun v6=>
 if(!v6)=true then
 some ((),(false,()))
 else
 letB (dK v4.2 v5.2) fun v7=>
 if(!v7)=true then
 some ((),(false,()))
 else
 if(eW.pre x1)=true then
 letB (jH v3 v3) fun v8=>
 if(!v8)=true then
 some ((),(false,()))
 else
 if(fK.pre v3 (1:Int))=true then
 letB (fK v3 (1:Int)) fun v9=>
 if(decide (v9.2<(0:Int)))=true then
 some ((),(false,()))
 else
 if(!v6)=true then
 some ((),(false,()))
 else
 if(!v7)=true then
 some ((),(false,()))
 else
 if(eX.pre v4.1 (1:Int))=true then
 letB (eX v4.1 (1:Int)) fun v10=>
 if(cB.pre v4.2 v10.2)=true then
 if(eL.pre (v10.1.1,(v10.1.2.1,(v10.1.2.2.1,(v4.1.2.2.2.1,(v10.1.2.2.2.2.1,(v10.1.2.2.2.2.2.1,v4.1.2.2.2.2.2.2)))))) (1:Int))=true then
 letB (eL (v10.1.1,(v10.1.2.1,(v10.1.2.2.1,(v4.1.2.2.2.1,(v10.1.2.2.2.2.1,(v10.1.2.2.2.2.2.1,v4.1.2.2.2.2.2.2)))))) (1:Int)) fun v11=>
 if(decide (v11<(0:Int)))=true then
 some ((),(false,()))
 else
 letB (cB v4.2 v10.2) fun v12=>
 if(bN.pre v12.1 v11)=true then
 letB (bN v12.1 v11) fun v13=>
 if(decide (v13<(0:Int)))=true then
 some ((),(false,()))
 else
 if(!(decide (v13=v12.2)))=true then
 some ((),(false,()))
 else
 if(eW.pre x1)=true then
 if(fJ.pre v2 v3)=true then
 letB (fJ v2 v3) fun v14=>
 letB (jZ v14.1 v5.1) fun v15=>
 if(!v15)=true then
 some ((),(false,()))
 else
 letB (dK v14.2 v5.2) fun v16=>
 if(!v16)=true then
 some ((),(false,()))
 else
 if(eL.pre (v10.1.1,(v10.1.2.1,(v10.1.2.2.1,(v4.1.2.2.2.1,(v10.1.2.2.2.2.1,(v10.1.2.2.2.2.2.1,v4.1.2.2.2.2.2.2)))))) (1:Int))=true then
 if(decide (v11<(0:Int)))=true then
 some ((),(false,()))
 else
 if(bN.pre v12.1 v11)=true then
 if(decide (v13<(0:Int)))=true then
 some ((),(false,()))
 else
 if(!(decide (v13=v12.2)))=true then
 some ((),(false,()))
 else
 some ((),(true,()))
 else
 none
 else
 none
 else
 none
 else
 none
 else
 none
 else
 none
 else
 none
 else
 none
 else
 none
 else
 none
 else
 none
 else
 none
 else
 none
 else
 none
 else
 none
theorem eq(x0:aW)(x1:List eO)(_:wf x0 x1):aQ x0 x1=some ((),(hZ x0 x1,())):=by
 have hM:=qJ
 have z1:=aKZ yW x1
 unfold aQ
 refine bV (show fX.pre _ _=true by simp only[fX.pre,Zb,Za];omega) (eN ?_)
 by_cases h:1048576-wL uN x1<0
 . rw[show fX x1 1048576=-1 from aA5 h]
   exact bV (by decide) rfl
 rw[show fX x1 1048576=1048576-wL uN x1 from aCh h]
 refine dM (by rw[Za];exact h) ?_
 have p1:eW.pre x1=true:=aHr (by omega)
 have hs:cH x1=true:=bW.2 (by omega)
 have hA:(nL x0 x1).2.length=x1.length:=(aDO (s:=x0) (l:=x1)).2.2
 have hK:=aFQ x0 x1
 have e1:gQ (kI x0) (eW x1)=nL x0 x1:=rfl
 have e2:fJ (kI x0) (eW x1)=nL x0 x1:=rfl
 refine bV p1 (eN (eN (bV (show gQ.pre _ _=true from hs) (bV p1 (bV (show fJ.pre _ _=true from hs) (aJD e2 (aJD e1 ?_)))))))
 generalize hv:nL x0 x1=v at *
 have cK:=aFv v.1
 have cA:=nP (g:=cM) (c:=4) v.2 fun _ _=>Int.le_refl _
 have cA0:=fV gA v.2
 have cC:=nP (g:=rM) (c:=8) x1 fun _ _=>Int.le_refl _
 have cC0:=fV zZ x1
 have eqK:¬(!jZ v.1 v.1)=true:=by rw[show jZ v.1 v.1=true from mH v.1];decide
 have eqA:¬(!dK v.2 v.2)=true:=by rw[show dK v.2 v.2=true from mH v.2];decide
 have s1:fK.pre x1 1=true:=lP.2 ⟨by omega,by omega⟩
 have s3:eX.pre v.1 1=true:=aFi (by omega) (by omega)
 have s3':cB.pre v.2 (1+eD v.1)=true:=yH (by omega) (by omega)
 have s4:eL.pre (oF v.1 1) 1=true:=aEO (by omega) (by rw[aAg];omega)
 have s5:eL (oF v.1 1) 1=1+eD v.1:=aDY _ 1
 have s6:bN.pre (oL mE cM v.2 (1+eD v.1)) (1+eD v.1)=true:=yC (by omega) (by rw[kO gA];omega)
 have f1:¬decide (1+eD v.1<0)=true:=by rw[Za];omega
 have f2:¬decide (1+eD v.1+bK cM v.2<0)=true:=by rw[Za];omega
 have f3:¬(!decide (1+eD v.1+bK cM v.2=1+eD v.1+bK cM v.2))=true:=by simp
 refine eN (dM eqK (eN (dM eqA (bV p1 (eN (dM (show ¬(!jH x1 x1)=true by rw[show jH x1 x1=true from mH x1];decide) ?_))))))
 refine bV s1 (eN (dM (show ¬decide (1+bK rM x1<0)=true by rw[Za];omega) (dM eqK (dM eqA (bV s3 (eN (bV s3' (bV s4 (aJD s5 (dM f1 ?_))))))))))
 refine eN (bV s6 (aJD (aK4 v.2 (1+eD v.1)) (dM f2 (dM f3 (bV p1 (bV (show fJ.pre _ _=true from hs) (aJD e2 (eN (dM eqK (eN (dM eqA ?_)))))))))))
 exact bV s4 (dM f1 (bV s6 (dM f2 (dM f3 rfl))))
end hZ
end Go.Aw.Pl
