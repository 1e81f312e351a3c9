import Derived.Test.YthkbmmjpjcehpaaGreatPra
namespace Go.Aw.Pl
open Go.IntKind (wrap)
open List (length)
open Go Go.Aw
set_option linter.unusedVariables false
set_option linter.unusedSimpArgs false
set_option maxHeartbeats 1000000
def mZ(len keep lastB:Int):Nat->Int->List aV->Int×List aV
 |n+1,st,it::r=>if keep<((it::r).length:Int)/\¬cL it.1 len=lastB then mZ len keep lastB n (wrap .i64 (wrap .i64 (cL it.1 len+1)*len)) ((it::r).dropWhile fun y=>decide (cL y.1 len=cL it.1 len)) else(st,it::r)
 |_,st,l=>(st,l)
def jN(x:bW)(len keep:Int):bW:=
 if(decide (1<=len)&&(decide (0<=keep)&&fI x))=true then
  ((mZ len keep (cL (wrap .i64 (x.2.1-1)) len) x.2.2.1.length x.1 x.2.2.1).1,(x.2.1,((mZ len keep (cL (wrap .i64 (x.2.1-1)) len) x.2.2.1.length x.1 x.2.2.1).2,())))
 else x
theorem sG{α:Type}{p:α->Bool}:(l:List α)->l.drop (l.takeWhile p).length=l.dropWhile p
 |[]=>rfl
 |a::r=>by
  cases h:p a<;>simp[List.takeWhile_cons,List.dropWhile_cons,h,sG r]
theorem qV{α:Type}{p:α->Bool}:(l:List α)->(l.dropWhile p).length<=l.length
 |[]=>Nat.le_refl _
 |a::r=>by
  cases h:p a
  . simp[List.dropWhile_cons,h]
  . have:=qV (p:=p) r
    simp only[List.dropWhile_cons,h,if_true,Zg];omega
theorem yS{len keep lastB:Int}:(n m:Nat)->(st:Int)->(l:List aV)->l.length<=n->l.length<=m->mZ len keep lastB n st l=mZ len keep lastB m st l
 |0,0,_,_,_,_=>rfl
 |0,m+1,st,[],_,_=>rfl
 |n+1,0,st,[],_,_=>rfl
 |n+1,m+1,st,[],_,_=>rfl
 |n+1,m+1,st,it::r,h1,h2=>by
  simp only[mZ]
  split
  . refine yS n m _ _ ?_ ?_
    all_goals
     rw[List.dropWhile_cons,if_pos (by simp)]
     have:=qV (p:=fun y:aV=>decide (cL y.1 len=cL it.1 len)) r
     simp only[Zg] at h1 h2
     omega
  . rfl
 |0,_+1,_,_::_,h,_=>by simp at h
 |_+1,0,_,_::_,_,h=>by simp at h
namespace gY
abbrev S9:Type:=(Int×(Int×aCT))
abbrev O9:Type:=(Int×(Int×aCT))
abbrev S4:Type:=aCT
abbrev O4:Type:=((Int×(Int×(Unit×((List aV)×Unit))))⊕aC1)
def pre9:S9->Bool:=fun(x1,_,_,x4,_,_,_,_,_,_,_,_,x13,_)=>decide (1<=x1)&&(bQ x13&&(decide (0<=x4)&&decide (x4<=(x13.length:Int))))
def mu9:S9->Nat:=fun(_,_,_,x4,_,_,_,_,_,_,_,_,x13,_)=>x13.length-x4.toNat
def fn9:S9->O9:=fun(x1,x2,x3,x4,x5,x6,x7,x8,x9,x10,x11,x12,x13,x14)=>(x1,x2,x3,x4+(((x13.drop x4.toNat).takeWhile fun y=>decide (cL y.1 x1=x3)).length:Int),x5,x6,x7,x8,x9,x10,x11,x12,x13,x14)
noncomputable def aCh(x1:Int)(x2:Int)(x3:Int)(x4:Int)(x5:bW)(x6:Int)(x7:Int)(x8:Unit)(x9:(List aV))(x10:Int)(x11:Int)(x12:Unit)(x13:(List aV)):Option ((Int×(Int×aCT))⊕(Int×(Int×aCT))):=
 if(decide (x4<((length x13:Nat):Int)))=true then
 if(decide ((0:Int)<=x4))=true then
 if(decide (x4<((length x13:Nat):Int)))=true then
 if(!(decide (x1=(0:Int))))=true then
 if(decide ((wrap .i64 (Int.tdiv (List.getD x13 (Int.toNat x4) kH).1 x1))=x3))=true then
 some (.inl (x1,(x2,(x3,((wrap .i64 (x4+(1:Int))),(x5,(x6,(x7,(x8,(x9,(x10,(x11,(x12,(x13,()))))))))))))))
 else
 some (.inr (x1,(x2,(x3,(x4,(x5,(x6,(x7,(x8,(x9,(x10,(x11,(x12,(x13,()))))))))))))))
 else
 none
 else
 none
 else
 none
 else
 some (.inr (x1,(x2,(x3,(x4,(x5,(x6,(x7,(x8,(x9,(x10,(x11,(x12,(x13,()))))))))))))))
theorem ok9(x1 x2 x3 x4:Int)(x5:bW)(x6 x7:Int)(x8:Unit)(x9:List aV)(x10 x11:Int)(x12:Unit)(x13:List aV)(hp:pre9 (x1,(x2,(x3,(x4,(x5,(x6,(x7,(x8,(x9,(x10,(x11,(x12,(x13,())))))))))))))=true):
 aX pre9 mu9 fn9 (x1,(x2,(x3,(x4,(x5,(x6,(x7,(x8,(x9,(x10,(x11,(x12,(x13,()))))))))))))) (aCh x1 x2 x3 x4 x5 x6 x7 x8 x9 x10 x11 x12 x13):=by
 simp only[pre9,Zb,Za] at hp
 obtain⟨h0,hs,h1,h2⟩:=hp
 have hs':=bJ.1 hs
 unfold aCh
 by_cases hlt:x4<(x13.length:Int)
 . have hn:x4.toNat<x13.length:=by omega
   have e1:=Zn hn
   refine bU (Zd hlt) (bU (Zd h1) (bU (Zd hlt) (bU (by simp only[Bool.not_eq_true',Zv];omega) ?_)))
   rw[dR hn,lN (n:=x4+1) (by omega) (by omega)]
   by_cases c:cL x13[x4.toNat].1 x1=x3
   . refine bU (Zd c) ⟨?_,by simp only[mu9];omega,?_⟩
     . simp only[pre9,Zb,Za];exact⟨h0,hs,by omega,by omega⟩
     . simp only[fn9]
       rw[e1,List.takeWhile_cons,Zd c,show(x4+1).toNat=x4.toNat+1 by omega]
       simp only[if_true,Zg]
       rw[show ∀n:Nat,x4+1+(n:Int)=x4+((n+1:Nat):Int) from fun n=>by omega]
   . refine dJ (by rw[Za];exact c) ?_
     simp only[aX,fn9]
     rw[e1,List.takeWhile_cons,decide_eq_false c]
     simp
 . refine dJ (by rw[Za];exact hlt) ?_
   simp only[aX,fn9]
   rw[Zt (by omega)]
   simp
def pre4:S4->Bool:=fun(x1,x2,_,_,_,_,_,_,_,_,x11,_)=>decide (1<=x1)&&(decide (0<=x2)&&bQ x11)
def kU:S4->Nat:=fun(_,_,_,_,_,_,_,_,_,_,x11,_)=>x11.length
def Q4(s:S4)(o:O4):Prop:=match s,o with
 |(x1,x2,x3,_,_,_,_,x8,x9,_,x11,_),.inl (y1,y2,_,y4,_)=>y2=x9/\(y1,y4)=mZ x1 x2 (cL (wrap .i64 (x3.2.1-1)) x1) x11.length x8 x11
 |(x1,x2,x3,_,_,_,_,x8,x9,_,x11,_),.inr (_,_,_,_,y5,y6,_,y8,_)=>y6=x9/\(y5,y8)=mZ x1 x2 (cL (wrap .i64 (x3.2.1-1)) x1) x11.length x8 x11
noncomputable def eO(x1:Int)(x2:Int)(x3:bW)(x4:Int)(x5:Int)(x6:Unit)(x7:(List aV))(x8:Int)(x9:Int)(x10:Unit)(x11:(List aV)):Option (aCT⊕((Int×(Int×(Unit×((List aV)×Unit))))⊕aC1)):=
 if(decide (x2<((length x11:Nat):Int)))=true then
 if(decide ((0:Int)<=(0:Int)))=true then
 if(decide ((0:Int)<((length x11:Nat):Int)))=true then
 if(!(decide (x1=(0:Int))))=true then
 if(!(decide (x1=(0:Int))))=true then
 if(decide ((wrap .i64 (Int.tdiv (List.getD x11 (Int.toNat (0:Int)) kH).1 x1))=(wrap .i64 (Int.tdiv (wrap .i64 (x3.2.1-(1:Int))) x1))))=true then
 some (.inr (.inl (x8,(x9,(x10,(x11,()))))))
 else
 if(gY.pre9 (x1,(x2,((wrap .i64 (Int.tdiv (List.getD x11 (Int.toNat (0:Int)) kH).1 x1)),((0:Int),(x3,(x4,(x5,(x6,(x7,(x8,(x9,(x10,(x11,()))))))))))))))=true then
 letB (gY.fn9 (x1,(x2,((wrap .i64 (Int.tdiv (List.getD x11 (Int.toNat (0:Int)) kH).1 x1)),((0:Int),(x3,(x4,(x5,(x6,(x7,(x8,(x9,(x10,(x11,())))))))))))))) fun v1=>
 if(decide ((0:Int)<=v1.2.2.2.1))=true then
 if(decide (v1.2.2.2.1<=((length v1.2.2.2.2.2.2.2.2.2.2.2.2.1:Nat):Int)))=true then
 if(decide (((length v1.2.2.2.2.2.2.2.2.2.2.2.2.1:Nat):Int)<=((length v1.2.2.2.2.2.2.2.2.2.2.2.2.1:Nat):Int)))=true then
 if(decide (length ([]:List aV)+length (aW (Int.toNat v1.2.2.2.1) (Int.toNat ((length v1.2.2.2.2.2.2.2.2.2.2.2.2.1:Nat):Int)) v1.2.2.2.2.2.2.2.2.2.2.2.2.1)<=gO))=true then
 some (.inl (v1.1,(v1.2.1,(v1.2.2.2.2.1,(v1.2.2.2.2.2.1,(v1.2.2.2.2.2.2.1,(v1.2.2.2.2.2.2.2.1,(v1.2.2.2.2.2.2.2.2.1,((wrap .i64 ((wrap .i64 (v1.2.2.1+(1:Int)))*v1.1)),(v1.2.2.2.2.2.2.2.2.2.2.1,(v1.2.2.2.2.2.2.2.2.2.2.2.1,((List.append ([]:List aV) (aW (Int.toNat v1.2.2.2.1) (Int.toNat ((length v1.2.2.2.2.2.2.2.2.2.2.2.2.1:Nat):Int)) v1.2.2.2.2.2.2.2.2.2.2.2.2.1)),()))))))))))))
 else
 none
 else
 none
 else
 none
 else
 none
 else
 none
 else
 none
 else
 none
 else
 none
 else
 none
 else
 some (.inr (.inr (x4,(x5,(x6,(x7,(x8,(x9,(x10,(x11,()))))))))))
theorem wp4:∀s,pre4 s=true->Wp ((fun(x:S4)=>eO x.1 x.2.1 x.2.2.1 x.2.2.2.1 x.2.2.2.2.1 x.2.2.2.2.2.1 x.2.2.2.2.2.2.1 x.2.2.2.2.2.2.2.1 x.2.2.2.2.2.2.2.2.1 x.2.2.2.2.2.2.2.2.2.1 x.2.2.2.2.2.2.2.2.2.2.1) s) (hJ pre4 kU Q4 s):=by
 rintro⟨x1,x2,x3,x4,x5,⟨⟩,x7,x8,x9,⟨⟩,x11,⟨⟩⟩ hp
 simp only[pre4,Zb,Za] at hp
 obtain⟨h0,h1,hs⟩:=hp
 have hs':=bJ.1 hs
 show Wp (eO x1 x2 x3 x4 x5 () x7 x8 x9 () x11) _
 unfold eO
 have hz:(!decide (x1=0))=true:=by simp only[Bool.not_eq_true',Zv];omega
 by_cases hlt:x2<(x11.length:Int)
 . match x11,hs,hs',hlt with
   |[],_,_,hlt=>simp only[Zh] at hlt;omega
   |it::r,hs,hs',hlt=>
    refine aG (Zd hlt) (aG (by decide) (aG (by simp only[Za,Zg];omega) (aG hz (aG hz (cF (fun c=>?_) fun c=>?_)))))
    . rw[Za] at c
      refine aH ⟨rfl,?_⟩
      simp only[Zg,mZ]
      rw[if_neg (fun h=>h.2 c)]
    . rw[Za] at c
      have c:¬cL it.1 x1=cL (wrap .i64 (x3.2.1-1)) x1:=c
      have hq:pre9 (x1,(x2,(cL it.1 x1,((0:Int),(x3,(x4,(x5,((),(x7,(x8,(x9,((),(it::r,())))))))))))))=true:=by
       simp only[pre9,Zb,Za];exact⟨h0,hs,by omega,by omega⟩
      refine aG hq (bR ?_)
      have hf:fn9 (x1,(x2,(wrap .i64 (Int.tdiv ((it::r).getD (Int.toNat 0) kH).1 x1),((0:Int),(x3,(x4,(x5,((),(x7,(x8,(x9,((),(it::r,())))))))))))))=(x1,(x2,(cL it.1 x1,((((it::r).takeWhile fun y=>decide (cL y.1 x1=cL it.1 x1)).length:Int),(x3,(x4,(x5,((),(x7,(x8,(x9,((),(it::r,()))))))))))))):=by
       show(x1,(x2,(cL it.1 x1,(0+_,_))))=_
       rw[Int.zero_add];rfl
      rw[hf]
      have hl:((it::r).takeWhile fun y=>decide (cL y.1 x1=cL it.1 x1)).length<=(it::r).length:=(List.takeWhile_sublist _).length_le
      simp only[]
      rw[yR (by omega)]
      refine aG (Zd (by omega)) (aG (Zd (by omega)) (aG (Zd (Int.le_refl _)) (aG ?_ (aH ?_))))
      . simp only[Za,Zh,aW,Zr,Zs,gO];omega
      . rw[show(((List.takeWhile (fun y=>decide (cL y.1 x1=cL it.1 x1)) (it::r)).length:Nat):Int).toNat=(List.takeWhile (fun y=>decide (cL y.1 x1=cL it.1 x1)) (it::r)).length from Int.toNat_natCast _,sG]
        have hd:((it::r).dropWhile fun y=>decide (cL y.1 x1=cL it.1 x1)).length<=r.length:=by
         rw[List.dropWhile_cons,if_pos (by simp)]
         exact qV r
        have hs2:r.length+1<=16777216:=by simpa using hs'
        have key:mZ x1 x2 (cL (wrap .i64 (x3.2.1-1)) x1) ((it::r).dropWhile fun y=>decide (cL y.1 x1=cL it.1 x1)).length (wrap .i64 (wrap .i64 (cL it.1 x1+1)*x1)) ((it::r).dropWhile fun y=>decide (cL y.1 x1=cL it.1 x1))=mZ x1 x2 (cL (wrap .i64 (x3.2.1-1)) x1) (it::r).length x8 (it::r):=by
         rw[Zg]
         conv=>rhs;unfold mZ
         rw[if_pos ⟨hlt,c⟩]
         exact yS _ _ _ _ (Nat.le_refl _) hd
        refine⟨?_,?_,fun o ho=>?_⟩
        . simp only[pre4,Zb,Za,bJ];exact⟨h0,h1,by omega⟩
        . show length _<(it::r).length
          simp only[Zg];omega
        . cases o with
          |inl y=>exact⟨ho.1,ho.2.trans key⟩
          |inr y=>exact⟨ho.1,ho.2.trans key⟩
 . refine eG (by rw[Za];exact hlt) (aH ⟨rfl,?_⟩)
   match x11,hlt with
   |[],_=>rfl
   |it::r,hlt=>
    simp only[Zg,mZ]
    rw[if_neg (fun h=>hlt h.1)]
noncomputable def fn4:S4->O4:=aJk (fun(x:S4)=>eO x.1 x.2.1 x.2.2.1 x.2.2.2.1 x.2.2.2.2.1 x.2.2.2.2.2.1 x.2.2.2.2.2.2.1 x.2.2.2.2.2.2.2.1 x.2.2.2.2.2.2.2.2.1 x.2.2.2.2.2.2.2.2.2.1 x.2.2.2.2.2.2.2.2.2.2.1) kU
theorem vZ(x1 x2:Int)(x3:bW)(x4 x5:Int)(x6:Unit)(x7:List aV)(x8 x9:Int)(x10:Unit)(x11:List aV)(hp:pre4 (x1,(x2,(x3,(x4,(x5,(x6,(x7,(x8,(x9,(x10,(x11,())))))))))))=true):
 aX pre4 kU fn4 (x1,(x2,(x3,(x4,(x5,(x6,(x7,(x8,(x9,(x10,(x11,()))))))))))) (eO x1 x2 x3 x4 x5 x6 x7 x8 x9 x10 x11):=aGx wp4 hp
def pre(x:bW)(_ _:Int):Bool:=bQ x.2.2.1
abbrev wf(x0:bW)(x1:Int)(x2:Int):Prop:=iM [(.val tK .f),(.val (.int .i64) .f),(.val (.int .i64) .f)] (x0,(x1,(x2,())))
noncomputable def aQ(x0:bW)(x1:Int)(x2:Int):Option (Unit×(bW×Unit)):=
 if(bK.pre x0)=true then
  if(decide (x1<(1:Int)))=true then
   letB (bK x0) fun v1=>
   some ((),(v1,()))
  else
   if(decide (x2<(0:Int)))=true then
    letB (bK x0) fun v2=>
    some ((),(v2,()))
   else
    if(eM.pre x0)=true then
     letB (fI x0) fun v3=>
     if(!v3)=true then
      letB (bK x0) fun v4=>
      some ((),(v4,()))
     else
      letB (bK x0) fun v5=>
      if(gY.pre4 (x1,(x2,(x0,((0:Int),((0:Int),((),(([]:List aV),(v5.1,(v5.2.1,(v5.2.2.2,v5.2.2)))))))))))=true then
       letB (gY.fn4 (x1,(x2,(x0,((0:Int),((0:Int),((),(([]:List aV),(v5.1,(v5.2.1,(v5.2.2.2,v5.2.2))))))))))) fun v6=>
       match v6 with
       |.inl y=>
        some ((),((y.1,(y.2.1,(y.2.2.2.1,y.2.2.1))),()))
       |.inr y=>
        some ((),((y.2.2.2.2.1,(y.2.2.2.2.2.1,(y.2.2.2.2.2.2.2.1,y.2.2.2.2.2.2.1))),()))
      else
       none
    else
     none
 else
  none
theorem eq(x0:bW)(x1 x2:Int)(_:wf x0 x1 x2)(hp:pre x0 x1 x2=true):aQ x0 x1 x2=some ((),(jN x0 x1 x2,())):=by
 have hs:bQ x0.2.2.1=true:=hp
 refine aCb ?_
 unfold aQ
 rw[show bK x0=x0 from rfl]
 refine aG (show bK.pre x0=true from hs) ?_
 have no:(decide (1<=x1)&&(decide (0<=x2)&&fI x0))=false->jN x0 x1 x2=x0:=fun h=>if_neg (by rw[h];exact Bool.false_ne_true)
 by_cases c1:x1<1
 . exact aG (Zd c1) (bR (aH (no (by rw[decide_eq_false (p:=1<=x1) (by omega)];rfl)).symm))
 refine eG (by rw[Za];exact c1) ?_
 by_cases c2:x2<0
 . exact aG (Zd c2) (bR (aH (no (by rw[decide_eq_false (p:=0<=x2) (by omega),Bool.false_and,Bool.and_false])).symm))
 refine eG (by rw[Za];exact c2) (aG (show eM.pre x0=true from hs) (bR ?_))
 cases c3:fI x0
 . exact aG rfl (bR (aH (no (by rw[c3,Bool.and_false,Bool.and_false])).symm))
 refine eG (by decide) (bR ?_)
 have hq:pre4 (x1,(x2,(x0,((0:Int),((0:Int),((),(([]:List aV),(x0.1,(x0.2.1,(x0.2.2.2,x0.2.2))))))))))=true:=by
  simp only[pre4,Zb,Za];exact⟨by omega,by omega,hs⟩
 rw[show jN x0 x1 x2=_ from if_pos (by rw[c3,Zd (p:=1<=x1) (by omega),Zd (p:=0<=x2) (by omega)];rfl)]
 refine aG hq (cW (aHC wp4 hq:Q4 _ (fn4 _)) fun o ho=>?_)
 cases o with
 |inl y=>
  obtain⟨y1,y2,y3,y4,⟨⟩⟩:=y
  obtain⟨q1,q2⟩:=ho
  refine aH ?_
  show(y1,(y2,(y4,())))=_
  rw[<-q2,q1]
 |inr y=>
  obtain⟨_,_,_,_,y5,y6,⟨⟩,y8,⟨⟩⟩:=y
  obtain⟨q1,q2⟩:=ho
  refine aH ?_
  show(y5,(y6,(y8,())))=_
  rw[<-q2,q1]
end gY
abbrev gY:=jN
def tE(x:bW)(i:Int):Bool:=(x.2.2.1.drop (i.toNat+1)).any fun y=>y.2.1==(x.2.2.1.getD i.toNat kH).2.1
namespace gM
abbrev S2:Type:=(Int×(Int×(bW×Unit)))
abbrev O2:Type:=((Bool×Unit)⊕Unit)
def pre2:S2->Bool:=fun(x1,x2,x3,_)=>bQ x3.2.2.1&&(decide (0<=x1)&&(decide (x1<(x3.2.2.1.length:Int))&&(decide (0<=x2)&&decide (x2<=(x3.2.2.1.length:Int)))))
def qY:S2->Nat:=fun(_,x2,x3,_)=>x3.2.2.1.length-x2.toNat
def fn2:S2->O2:=fun(x1,x2,x3,_)=>cond ((x3.2.2.1.drop x2.toNat).any fun y=>y.2.1==(x3.2.2.1.getD x1.toNat kH).2.1) (.inl (true,())) (.inr ())
noncomputable def jX(x1:Int)(x2:Int)(x3:bW):Option ((Int×(Int×(bW×Unit)))⊕((Bool×Unit)⊕Unit)):=
 if(decide (x2<((length x3.2.2.1:Nat):Int)))=true then
 if(decide ((0:Int)<=x2))=true then
 if(decide (x2<((length x3.2.2.1:Nat):Int)))=true then
 if(decide ((0:Int)<=x1))=true then
 if(decide (x1<((length x3.2.2.1:Nat):Int)))=true then
 if((List.getD x3.2.2.1 (Int.toNat x2) kH).2.1==(List.getD x3.2.2.1 (Int.toNat x1) kH).2.1)=true then
 some (.inr (.inl (true,())))
 else
 some (.inl (x1,((wrap .i64 (x2+(1:Int))),(x3,()))))
 else
 none
 else
 none
 else
 none
 else
 none
 else
 some (.inr (.inr ()))
abbrev wf(x0:bW)(x1:Int):Prop:=iM [(.val tK .f),(.val (.int .i64) .f)] (x0,(x1,()))
noncomputable def aQ(x0:bW)(x1:Int):Option mV:=
 if(gM.pre2 (x1,((wrap .i64 (x1+(1:Int))),(x0,()))))=true then
  letB (gM.fn2 (x1,((wrap .i64 (x1+(1:Int))),(x0,())))) fun v1=>
  match v1 with
  |.inl y=>
   some ((),y)
  |.inr y=>
   some ((),(false,()))
 else
  none
theorem ok2(x1 x2:Int)(x3:bW)(hp:pre2 (x1,(x2,(x3,())))=true):aX pre2 qY fn2 (x1,(x2,(x3,()))) (jX x1 x2 x3):=by
 simp only[pre2,Zb,Za] at hp
 obtain⟨hs,k0,k1,h1,h2⟩:=hp
 have hs':=bJ.1 hs
 unfold jX
 by_cases hlt:x2<(x3.2.2.1.length:Int)
 . have hn:x2.toNat<x3.2.2.1.length:=by omega
   have e1:=Zn hn
   refine bU (Zd hlt) (bU (Zd h1) (bU (Zd hlt) (bU (Zd k0) (bU (Zd k1) ?_))))
   rw[dR hn,lN (n:=x2+1) (by omega) (by omega)]
   cases c:(x3.2.2.1[x2.toNat].2.1==(x3.2.2.1.getD x1.toNat kH).2.1)
   . refine dJ (by decide) ⟨?_,by simp only[qY];omega,?_⟩
     . simp only[pre2,Zb,Za];exact⟨hs,k0,k1,by omega,by omega⟩
     . simp only[fn2]
       rw[e1,List.any_cons,c,Bool.false_or,show(x2+1).toNat=x2.toNat+1 by omega]
   . refine bU rfl ?_
     simp only[aX,fn2]
     rw[e1,List.any_cons,c,Bool.true_or];rfl
 . refine dJ (by rw[Za];exact hlt) ?_
   simp only[aX,fn2]
   rw[Zt (by omega)];rfl
def pre(x:bW)(i:Int):Bool:=bQ x.2.2.1&&(decide (0<=i)&&decide (i<(x.2.2.1.length:Int)))
theorem eq(x0:bW)(x1:Int)(_:wf x0 x1)(hp:pre x0 x1=true):aQ x0 x1=some ((),(tE x0 x1,())):=by
 simp only[pre,Zb,Za] at hp
 obtain⟨hs,k0,k1⟩:=hp
 have hs':=bJ.1 hs
 unfold aQ tE
 rw[lN (n:=x1+1) (by omega) (by omega)]
 refine bO (show pre2 _=true by simp only[pre2,Zb,Za];exact⟨hs,k0,k1,by omega,by omega⟩) (eK ?_)
 simp only[fn2]
 rw[show(x1+1).toNat=x1.toNat+1 by omega]
 cases(x0.2.2.1.drop (x1.toNat+1)).any fun y=>y.2.1==(x0.2.2.1.getD x1.toNat kH).2.1<;>rfl
end gM
abbrev gM:=tE
def tY(len lastB:Int):List aV->List aV
 |[]=>[]
 |it::r=>cond (it.2.1==([]:List UInt8)||(!(r.any fun y=>y.2.1==it.2.1)||decide (cL it.1 len=lastB))) (it::tY len lastB r) (tY len lastB r)
theorem sN{len lastB:Int}{it:aV}{r:List aV}:tY len lastB (it::r)=cond (it.2.1==([]:List UInt8)||(!(r.any fun y=>y.2.1==it.2.1)||decide (cL it.1 len=lastB))) (it::tY len lastB r) (tY len lastB r):=rfl
def jR(x:bW)(len:Int):bW:=
 if(decide (1<=len)&&fI x)=true then(x.1,(x.2.1,(tY len (cL (wrap .i64 (x.2.1-1)) len) x.2.2.1,()))) else x
namespace iX
abbrev S5:Type:=aCT
abbrev O5:Type:=aC1
def pre5:S5->Bool:=fun(x1,x2,x3,_,_,_,_,_,_,_,x11,_)=>decide (1<=x1)&&(bQ x3.2.2.1&&(decide (0<=x2)&&(decide (x2<=(x3.2.2.1.length:Int))&&decide ((x11.length:Int)<=x2))))
def mu5:S5->Nat:=fun(_,x2,x3,_)=>x3.2.2.1.length-x2.toNat
def Q5(s:S5)(o:O5):Prop:=match s,o with
 |(x1,x2,x3,_,_,_,_,x8,x9,_,x11,_),(_,_,_,_,y5,y6,_,y8,_)=>y5=x8/\y6=x9/\y8=x11++tY x1 (cL (wrap .i64 (x3.2.1-1)) x1) (x3.2.2.1.drop x2.toNat)
noncomputable def rG(x1:Int)(x2:Int)(x3:bW)(x4:Int)(x5:Int)(x6:Unit)(x7:(List aV))(x8:Int)(x9:Int)(x10:Unit)(x11:(List aV)):Option (aCT⊕aC1):=
 if(decide (x2<((length x3.2.2.1:Nat):Int)))=true then
 if(decide ((0:Int)<=x2))=true then
 if(decide (x2<((length x3.2.2.1:Nat):Int)))=true then
 if((List.getD x3.2.2.1 (Int.toNat x2) kH).2.1==([]:List UInt8))=true then
 if(decide (length x11+length ((List.getD x3.2.2.1 (Int.toNat x2) kH)::([]:List aV))<=gO))=true then
 some (.inl (x1,((wrap .i64 (x2+(1:Int))),(x3,(x4,(x5,(x6,(x7,(x8,(x9,(x10,((List.append x11 ((List.getD x3.2.2.1 (Int.toNat x2) kH)::([]:List aV))),()))))))))))))
 else
 none
 else
 if(gM.pre x3 x2)=true then
 letB (tE x3 x2) fun v1=>
 if(!v1)=true then
 if(decide (length x11+length ((List.getD x3.2.2.1 (Int.toNat x2) kH)::([]:List aV))<=gO))=true then
 some (.inl (x1,((wrap .i64 (x2+(1:Int))),(x3,(x4,(x5,(x6,(x7,(x8,(x9,(x10,((List.append x11 ((List.getD x3.2.2.1 (Int.toNat x2) kH)::([]:List aV))),()))))))))))))
 else
 none
 else
 if(!(decide (x1=(0:Int))))=true then
 if(!(decide (x1=(0:Int))))=true then
 if(decide ((wrap .i64 (Int.tdiv (List.getD x3.2.2.1 (Int.toNat x2) kH).1 x1))=(wrap .i64 (Int.tdiv (wrap .i64 (x3.2.1-(1:Int))) x1))))=true then
 if(decide (length x11+length ((List.getD x3.2.2.1 (Int.toNat x2) kH)::([]:List aV))<=gO))=true then
 some (.inl (x1,((wrap .i64 (x2+(1:Int))),(x3,(x4,(x5,(x6,(x7,(x8,(x9,(x10,((List.append x11 ((List.getD x3.2.2.1 (Int.toNat x2) kH)::([]:List aV))),()))))))))))))
 else
 none
 else
 some (.inl (x1,((wrap .i64 (x2+(1:Int))),(x3,(x4,(x5,(x6,(x7,(x8,(x9,(x10,(x11,()))))))))))))
 else
 none
 else
 none
 else
 none
 else
 none
 else
 none
 else
 some (.inr (x4,(x5,(x6,(x7,(x8,(x9,(x10,(x11,())))))))))
theorem wp5:∀s,pre5 s=true->Wp ((fun(x:S5)=>rG x.1 x.2.1 x.2.2.1 x.2.2.2.1 x.2.2.2.2.1 x.2.2.2.2.2.1 x.2.2.2.2.2.2.1 x.2.2.2.2.2.2.2.1 x.2.2.2.2.2.2.2.2.1 x.2.2.2.2.2.2.2.2.2.1 x.2.2.2.2.2.2.2.2.2.2.1) s) (hJ pre5 mu5 Q5 s):=by
 rintro⟨x1,x2,x3,x4,x5,⟨⟩,x7,x8,x9,⟨⟩,x11,⟨⟩⟩ hp
 simp only[pre5,Zb,Za] at hp
 obtain⟨h0,hs,h1,h2,h3⟩:=hp
 have hs':=bJ.1 hs
 show Wp (rG x1 x2 x3 x4 x5 () x7 x8 x9 () x11) _
 unfold rG
 by_cases hlt:x2<(x3.2.2.1.length:Int)
 . have hn:x2.toNat<x3.2.2.1.length:=by omega
   have e1:=Zn hn
   have bh:tE x3 x2=(x3.2.2.1.drop (x2.toNat+1)).any fun y=>y.2.1==x3.2.2.1[x2.toNat].2.1:=by unfold tE;rw[dR hn]
   rw[dR hn,lN (n:=x2+1) (by omega) (by omega)]
   have hz:(!decide (x1=0))=true:=by simp only[Bool.not_eq_true',Zv];omega
   have hl:decide (x11.length+(x3.2.2.1[x2.toNat]::([]:List aV)).length<=gO)=true:=by
    simp only[Za,Zg,Zh,gO];omega
   have nx:∀y:List aV,y.length<=1->tY x1 (cL (wrap .i64 (x3.2.1-1)) x1) (x3.2.2.1.drop x2.toNat)=y++tY x1 (cL (wrap .i64 (x3.2.1-1)) x1) (x3.2.2.1.drop (x2.toNat+1))->
    hJ pre5 mu5 Q5 (x1,x2,x3,x4,x5,(),x7,x8,x9,(),x11,()) (.inl (x1,((x2+1),(x3,(x4,(x5,((),(x7,(x8,(x9,((),(x11++y,())))))))))))):=by
    intro y hy he
    refine⟨?_,by simp only[mu5];omega,?_⟩
    . simp only[pre5,Zb,Za,Zf];exact⟨h0,hs,by omega,by omega,by omega⟩
    . rintro⟨_,_,_,_,y5,y6,⟨⟩,y8,⟨⟩⟩ ⟨q1,q2,q3⟩
      refine⟨q1,q2,q3.trans ?_⟩
      rw[he,show(x2+1).toNat=x2.toNat+1 by omega,Zk]
   have nx1:(x3.2.2.1[x2.toNat].2.1==([]:List UInt8)||(!tE x3 x2||decide (cL x3.2.2.1[x2.toNat].1 x1=cL (wrap .i64 (x3.2.1-1)) x1)))=true->
    hJ pre5 mu5 Q5 (x1,x2,x3,x4,x5,(),x7,x8,x9,(),x11,()) (.inl (x1,((x2+1),(x3,(x4,(x5,((),(x7,(x8,(x9,((),(List.append x11 (x3.2.2.1[x2.toNat]::([]:List aV)),())))))))))))):=fun h=>
    nx [x3.2.2.1[x2.toNat]] (by simp) (by rw[bh] at h;rw[e1,sN,h];rfl)
   have nx0:(x3.2.2.1[x2.toNat].2.1==([]:List UInt8)||(!tE x3 x2||decide (cL x3.2.2.1[x2.toNat].1 x1=cL (wrap .i64 (x3.2.1-1)) x1)))=false->
    hJ pre5 mu5 Q5 (x1,x2,x3,x4,x5,(),x7,x8,x9,(),x11,()) (.inl (x1,((x2+1),(x3,(x4,(x5,((),(x7,(x8,(x9,((),(x11,())))))))))))):=fun h=>by
    have:=nx [] (by simp) (by rw[bh] at h;rw[e1,sN,h];rfl)
    rwa [List.append_nil] at this
   refine aG (Zd hlt) (aG (Zd h1) (aG (Zd hlt) (cF (fun c=>?_) fun c=>?_)))
   . exact aG hl (aH (nx1 (by rw[c];rfl)))
   . have c:(x3.2.2.1[x2.toNat].2.1==([]:List UInt8))=false:=by cases h:(x3.2.2.1[x2.toNat].2.1==([]:List UInt8))<;>simp_all
     refine aG (show gM.pre x3 x2=true by simp only[gM.pre,Zb,Za];exact⟨hs,h1,hlt⟩) (bR (cF (fun d=>?_) fun d=>?_))
     . exact aG hl (aH (nx1 (by rw[c,d];rfl)))
     . have d:tE x3 x2=true:=by cases h:tE x3 x2<;>simp_all
       refine aG hz (aG hz (cF (fun f=>?_) fun f=>?_))
       . exact aG hl (aH (nx1 (by rw[c,d];exact f)))
       . rw[Za] at f
         have f:¬cL x3.2.2.1[x2.toNat].1 x1=cL (wrap .i64 (x3.2.1-1)) x1:=f
         exact aH (nx0 (by rw[c,d,decide_eq_false f];rfl))
 . refine eG (by rw[Za];exact hlt) (aH ⟨rfl,rfl,?_⟩)
   rw[Zt (by omega)]
   exact(List.append_nil _).symm
noncomputable def fn5:S5->O5:=zS (fun(x:S5)=>rG x.1 x.2.1 x.2.2.1 x.2.2.2.1 x.2.2.2.2.1 x.2.2.2.2.2.1 x.2.2.2.2.2.2.1 x.2.2.2.2.2.2.2.1 x.2.2.2.2.2.2.2.2.1 x.2.2.2.2.2.2.2.2.2.1 x.2.2.2.2.2.2.2.2.2.2.1) mu5
theorem ok5(x1 x2:Int)(x3:bW)(x4 x5:Int)(x6:Unit)(x7:List aV)(x8 x9:Int)(x10:Unit)(x11:List aV)(hp:pre5 (x1,(x2,(x3,(x4,(x5,(x6,(x7,(x8,(x9,(x10,(x11,())))))))))))=true):
 aX pre5 mu5 fn5 (x1,(x2,(x3,(x4,(x5,(x6,(x7,(x8,(x9,(x10,(x11,()))))))))))) (rG x1 x2 x3 x4 x5 x6 x7 x8 x9 x10 x11):=oN wp5 hp
def pre(x:bW)(_:Int):Bool:=bQ x.2.2.1
abbrev wf(x0:bW)(x1:Int):Prop:=iM [(.val tK .f),(.val (.int .i64) .f)] (x0,(x1,()))
noncomputable def aQ(x0:bW)(x1:Int):Option (Unit×(bW×Unit)):=
 if(decide (x1<(1:Int)))=true then
 if(bK.pre x0)=true then
 letB (bK x0) fun v1=>
 some ((),(v1,()))
 else
 none
 else
 if(eM.pre x0)=true then
 letB (fI x0) fun v2=>
 if(!v2)=true then
 if(bK.pre x0)=true then
 letB (bK x0) fun v3=>
 some ((),(v3,()))
 else
 none
 else
 if(iX.pre5 (x1,((0:Int),(x0,((0:Int),((0:Int),((),(([]:List aV),(x0.1,(x0.2.1,((),(([]:List aV),()))))))))))))=true then
 letB (iX.fn5 (x1,((0:Int),(x0,((0:Int),((0:Int),((),(([]:List aV),(x0.1,(x0.2.1,((),(([]:List aV),())))))))))))) fun v4=>
 some ((),((v4.2.2.2.2.1,(v4.2.2.2.2.2.1,(v4.2.2.2.2.2.2.2.1,v4.2.2.2.2.2.2.1))),()))
 else
 none
 else
 none
theorem eq(x0:bW)(x1:Int)(_:wf x0 x1)(hp:pre x0 x1=true):aQ x0 x1=some ((),(jR x0 x1,())):=by
 have hs:bQ x0.2.2.1=true:=hp
 refine aCb ?_
 unfold aQ
 have no:(decide (1<=x1)&&fI x0)=false->jR x0 x1=x0:=fun h=>if_neg (by rw[h];exact Bool.false_ne_true)
 by_cases c1:x1<1
 . exact aG (Zd c1) (aG (show bK.pre x0=true from hs) (bR (aH (no (by rw[decide_eq_false (p:=1<=x1) (by omega)];rfl)).symm)))
 refine eG (by rw[Za];exact c1) (aG (show eM.pre x0=true from hs) (bR ?_))
 cases c3:fI x0
 . exact aG rfl (aG (show bK.pre x0=true from hs) (bR (aH (no (by rw[c3,Bool.and_false])).symm)))
 have hq:pre5 (x1,((0:Int),(x0,((0:Int),((0:Int),((),(([]:List aV),(x0.1,(x0.2.1,((),(([]:List aV),())))))))))))=true:=by
  simp only[pre5,Zb,Za,Zh];exact⟨by omega,hs,by omega,by omega,by omega⟩
 rw[show jR x0 x1=_ from if_pos (by rw[c3,Zd (p:=1<=x1) (by omega)];rfl)]
 refine eG (by decide) (aG hq (cW (rI wp5 hq:Q5 _ (fn5 _)) ?_))
 rintro⟨_,_,_,_,y5,y6,⟨⟩,y8,⟨⟩⟩ ⟨q1,q2,q3⟩
 refine aH ?_
 show(y5,(y6,(y8,())))=_
 rw[q1,q2,q3];rfl
end iX
abbrev iX:=jR
theorem iO{α:Type}{xs:List α}{j:Nat}(h:j<xs.length)(d:α):xs.getD j d∈xs:=by
 rw[dR h];exact List.getElem_mem _
theorem aBX{α:Type}{xs:List α}{x:α}(h:x∈xs)(d:α):∃j,j<xs.length/\xs.getD j d=x:=by
 obtain⟨j,hj,rfl⟩:=List.mem_iff_getElem.1 h
 exact⟨j,hj,dR hj⟩
theorem tQ{α:Type}{R:α->α->Prop}(tr:∀a b c,R a b->R b c->R a c)(d:α):(xs:List α)->(∀j,0<j->j<xs.length->R (xs.getD (j-1) d) (xs.getD j d))->xs.Pairwise R
 |[],_=>List.Pairwise.nil
 |[a],_=>List.pairwise_singleton _ _
 |a::b::r,h=>by
  have ih:=tQ tr d (b::r) fun j h0 h1=>by
   have:=h (j+1) (by omega) (by simpa using h1)
   match j,h0 with
   |j+1,_=>exact this
  have hab:R a b:=h 1 (by omega) (by simp)
  refine List.pairwise_cons.2 ⟨fun c hc=>?_,ih⟩
  rcases List.mem_cons.1 hc with rfl|hc
  . exact hab
  . exact tr _ _ _ hab ((List.pairwise_cons.1 ih).1 c hc)
theorem xL{α:Type}{R:α->α->Prop}{d:α}{xs:List α}(h:xs.Pairwise R){j:Nat}(h0:0<j)(h1:j<xs.length):R (xs.getD (j-1) d) (xs.getD j d):=by
 rw[dR h1,dR (show j-1<xs.length by omega)]
 exact List.pairwise_iff_getElem.1 h _ _ _ _ (by omega)
theorem lO{x:bW}:fI x=true↔(0<=x.1/\x.1<=x.2.1/\x.2.1<=100000/\x.2.2.1.length<=80)/\(∀it∈x.2.2.1,x.1<=it.1/\it.1<x.2.1/\aC6 it=true)/\x.2.2.1.Pairwise (fun a b=>a.1<b.1):=by
 constructor
 . intro h
   simp only[fI,Zb,Za,aA,aAu,sK,Bool.or_eq_true] at h
   obtain⟨⟨h1,h2⟩,h3,h4,h5⟩:=h
   rw[lN (n:=x.2.1-1) (by omega) (by omega)] at h5
   refine⟨⟨h1,h2,h3,by omega⟩,fun it hit=>?_,tQ (R:=fun(a b:aV)=>a.1<b.1) (fun _ _ _=>Int.lt_trans) kH _ fun j h0 h1=>?_⟩
   . obtain⟨j,hj,rfl⟩:=aBX hit kH
     have:=h5 j hj
     exact⟨this.1.1,by have:=this.1.2;omega,this.2.2⟩
   . have:=(h5 j h1).2.1
     rcases this with h|h
     . omega
     . exact h
 . rintro⟨⟨h1,h2,h3,h4⟩,h5,h6⟩
   simp only[fI,Zb,Za,aA,aAu,sK,Bool.or_eq_true]
   rw[lN (n:=x.2.1-1) (by omega) (by omega)]
   refine⟨⟨h1,h2⟩,h3,by omega,fun j hj=>?_⟩
   have:=h5 _ (iO hj kH)
   refine⟨⟨this.1,by have:=this.2.1;omega⟩,?_,this.2.2⟩
   rcases Nat.eq_zero_or_pos j with h|h
   . exact .inl h
   . exact .inr (xL h6 h hj)
theorem aAB{len lastB:Int}:(l:List aV)->(tY len lastB l).Sublist l
 |[]=>List.Sublist.slnil
 |it::r=>by
  rw[sN]
  cases(it.2.1==([]:List UInt8)||(!(r.any fun y=>y.2.1==it.2.1)||decide (cL it.1 len=lastB)))
  . exact(aAB r).cons _
  . exact(aAB r).cons_cons _
theorem aFY{x:bW}{len:Int}(h:fI x=true):fI (jR x len)=true/\(jR x len).2.1=x.2.1:=by
 unfold jR
 split
 . obtain⟨⟨h1,h2,h3,h4⟩,h5,h6⟩:=lO.1 h
   have hs:=aAB (len:=len) (lastB:=cL (wrap .i64 (x.2.1-1)) len) x.2.2.1
   exact⟨lO.2 ⟨⟨h1,h2,h3,Nat.le_trans hs.length_le h4⟩,fun it hit=>h5 it (hs.mem hit),h6.sublist hs⟩,rfl⟩
 . exact⟨h,rfl⟩
theorem wK{n len:Int}(h0:0<=n)(h1:n<=100000)(h2:1<=len):cL n len=n/len:=by
 unfold cL
 rw[Int.tdiv_eq_ediv_of_nonneg h0]
 have a:=Int.ediv_nonneg h0 (show 0<=len by omega)
 have b:=Int.ediv_le_self len h0
 rw[lN (by omega) (by omega)]
theorem aD3{a n len:Int}(hl:1<=len)(h1:a/len<n/len):(a/len+1)*len<=n:=by
 have h2:(a/len+1)*len<=n/len*len:=Int.mul_le_mul_of_nonneg_right (by omega) (by omega)
 have h3:n/len*len<=n:=Int.ediv_mul_le n (by omega)
 omega
theorem tD{α:Type}{p:α->Bool}(l:List α):(l.dropWhile p).Sublist l:=by
 rw[<-sG];exact List.drop_sublist _ _
theorem wG{α:Type}{p:α->Bool}:(l:List α)->(a:α)->(r:List α)->l.dropWhile p=a::r->p a=false
 |b::l,a,r,h=>by
  cases hb:p b
  . rw[List.dropWhile_cons,if_neg (by rw[hb];decide)] at h
    cases h;exact hb
  . rw[List.dropWhile_cons,if_pos hb] at h
    exact wG l a r h
 |[],_,_,h=>by cases h
theorem aHn{len:Int}{it:aV}{r:List aV}(hl:1<=len)(hb:∀y∈it::r,0<=y.1/\y.1<=100000)(hp:(it::r).Pairwise (fun a b=>a.1<b.1)):
 ∀y∈(it::r).dropWhile (fun y=>decide (cL y.1 len=cL it.1 len)),(it.1/len+1)*len<=y.1:=by
 intro y hy
 have hs:=tD (p:=fun y:aV=>decide (cL y.1 len=cL it.1 len)) (it::r)
 cases hd:(it::r).dropWhile (fun y=>decide (cL y.1 len=cL it.1 len)) with
 |nil=>rw[hd] at hy;cases hy
 |cons a q=>
  have ha:=wG _ _ _ hd
  rw[hd] at hy hs
  have ham:a∈it::r:=hs.mem List.mem_cons_self
  have hpq:=hp.sublist hs
  have h1:=hb a ham
  have h0:=hb it List.mem_cons_self
  simp only[Zv] at ha
  rw[wK h1.1 h1.2 hl,wK h0.1 h0.2 hl] at ha
  have hle:it.1<=a.1:=by
   rcases List.mem_cons.1 ham with rfl|h
   . omega
   . exact Int.le_of_lt ((List.pairwise_cons.1 hp).1 a h)
  have hlt:it.1/len<a.1/len:=by
   have:=Int.ediv_le_ediv (show 0<len by omega) hle
   omega
  have:=aD3 hl hlt
  rcases List.mem_cons.1 hy with rfl|h
  . exact this
  . have:=(List.pairwise_cons.1 hpq).1 y h
    omega
theorem aEg{len keep next:Int}(hl:1<=len)(hl8:len<=8)(hn:next<=100000):(n:Nat)->(st:Int)->(l:List aV)->0<=st->st<=next->(∀y∈l,st<=y.1/\y.1<next)->l.Pairwise (fun a b=>a.1<b.1)->
 (0<=(mZ len keep (cL (wrap .i64 (next-1)) len) n st l).1/\(mZ len keep (cL (wrap .i64 (next-1)) len) n st l).1<=next)/\(∀y∈(mZ len keep (cL (wrap .i64 (next-1)) len) n st l).2,(mZ len keep (cL (wrap .i64 (next-1)) len) n st l).1<=y.1)/\(mZ len keep (cL (wrap .i64 (next-1)) len) n st l).2.Sublist l
 |0,st,l,h0,h1,h2,h3=>by simp only[mZ];exact⟨⟨h0,h1⟩,fun y hy=>(h2 y hy).1,List.Sublist.refl _⟩
 |n+1,st,[],h0,h1,h2,h3=>by simp only[mZ];exact⟨⟨h0,h1⟩,fun y hy=>(h2 y hy).1,List.Sublist.refl _⟩
 |n+1,st,it::r,h0,h1,h2,h3=>by
  simp only[mZ]
  split
  . rename_i hc
    have hit:=h2 it List.mem_cons_self
    have hb:∀y∈it::r,0<=y.1/\y.1<=100000:=fun y hy=>by have:=h2 y hy;omega
    have e1:cL it.1 len=it.1/len:=wK (by omega) (by omega) hl
    have hw:wrap .i64 (next-1)=next-1:=lN (by omega) (by omega)
    have e2:cL (wrap .i64 (next-1)) len=(next-1)/len:=by rw[hw];exact wK (by omega) (by omega) hl
    have hne:=hc.2
    rw[e1,e2] at hne
    have hlt:it.1/len<(next-1)/len:=by
     have:=Int.ediv_le_ediv (show 0<len by omega) (show it.1<=next-1 by omega)
     omega
    have hnx:=aD3 hl hlt
    have q0:=Int.ediv_nonneg (show 0<=it.1 by omega) (show 0<=len by omega)
    have q1:=Int.ediv_le_self len (show 0<=it.1 by omega)
    have q2:0<=(it.1/len+1)*len:=Int.mul_nonneg (by omega) (by omega)
    have ew:wrap .i64 (wrap .i64 (cL it.1 len+1)*len)=(it.1/len+1)*len:=by
     rw[e1,lN (n:=it.1/len+1) (by omega) (by omega),lN (by omega) (by omega)]
    rw[ew]
    have hs:=tD (p:=fun y:aV=>decide (cL y.1 len=cL it.1 len)) (it::r)
    have hr:=aHn hl hb h3
    have ih:=aEg (keep:=keep) hl hl8 hn n ((it.1/len+1)*len) _ q2 (by omega) (fun y hy=>⟨hr y hy,(h2 y (hs.mem hy)).2⟩) (h3.sublist hs)
    exact⟨ih.1,ih.2.1,ih.2.2.trans hs⟩
  . exact⟨⟨h0,h1⟩,fun y hy=>(h2 y hy).1,List.Sublist.refl _⟩
theorem aGd{x:bW}{len keep:Int}(h:fI x=true)(hl8:len<=8):fI (jN x len keep)=true/\(jN x len keep).2.1=x.2.1:=by
 unfold jN
 split
 . rename_i hc
   simp only[Zb,Za] at hc
   obtain⟨⟨h1,h2,h3,h4⟩,h5,h6⟩:=lO.1 h
   have ht:=aEg (keep:=keep) hc.1 hl8 h3 x.2.2.1.length x.1 x.2.2.1 h1 h2 (fun y hy=>⟨(h5 y hy).1,(h5 y hy).2.1⟩) h6
   refine⟨lO.2 ⟨⟨ht.1.1,ht.1.2,h3,Nat.le_trans ht.2.2.length_le h4⟩,fun it hit=>⟨ht.2.1 it hit,(h5 it (ht.2.2.mem hit)).2⟩,h6.sublist ht.2.2⟩,rfl⟩
 . exact⟨h,rfl⟩
theorem gQ{g:aE}{rows:Int}:iI g rows=true↔(g.2.2.1.length=g.2.1.length/\(g.2.2.2.1.length:Int)=rows/\0<=g.1/\g.1<=100000)/\(∀m∈g.2.1,0<=m/\m<=3)/\g.2.1.Pairwise (·< ·)/\(∀b∈g.2.2.1,0<=b/\b<=100000)/\(∀o∈g.2.2.2.1,0<=o/\o<=100000):=by
 constructor
 . intro h
   simp only[iI,Zb,Za,aA,aAu,aB1,Bool.or_eq_true,bT,Zu,uJ,cZ] at h
   obtain⟨h1,h2,⟨h3,h4⟩,h5,h6,h7⟩:=h
   refine⟨⟨by omega,h2,h3,h4⟩,fun m hm=>?_,tQ (R:=fun(a b:Int)=>a<b) (fun _ _ _=>Int.lt_trans) (0:Int) _ fun j j0 j1=>?_,h6,h7⟩
   . obtain⟨j,hj,rfl⟩:=aBX hm (0:Int)
     exact(h5 j hj).1
   . rcases(h5 j j1).2 with h|h
     . omega
     . exact h
 . rintro⟨⟨h1,h2,h3,h4⟩,h5,h6,h7,h8⟩
   simp only[iI,Zb,Za,aA,aAu,aB1,Bool.or_eq_true,bT,Zu,uJ,cZ]
   refine⟨by omega,h2,⟨h3,h4⟩,fun j hj=>⟨h5 _ (iO hj _),?_⟩,h7,h8⟩
   rcases Nat.eq_zero_or_pos j with h|h
   . exact .inl h
   . exact .inr (xL h6 h hj)
theorem aGQ:(l:List Int)->(a:Int)->(∀m∈l,a<=m/\m<=3)->l.Pairwise (·< ·)->l.length<=(4-a).toNat
 |[],_,_,_=>Nat.zero_le _
 |m::r,a,h,hp=>by
  have h1:=h m List.mem_cons_self
  have:=aGQ r (m+1) (fun x hx=>by have:=(List.pairwise_cons.1 hp).1 x hx;have:=h x (Zo _ hx);omega) (List.pairwise_cons.1 hp).2
  simp only[Zg];omega
theorem xO{g:aE}{rows:Int}(h:iI g rows=true)(hr:rows<=4):gC g=true/\g.2.1.length<=4:=by
 obtain⟨⟨h1,h2,h3,h4⟩,h5,h6,h7,h8⟩:=gQ.1 h
 have:=aGQ g.2.1 0 h5 h6
 rw[iQ]
 omega
theorem aFQ{n:Int}(h0:0<=n)(h1:n<=100000):0<=upG n/\upG n<=100000:=by
 unfold upG;split<;>omega
theorem aAJ{t:Int}:(ms bs:List Int)->(qB t ms bs).Sublist ms
 |[],_=>List.nil_sublist _
 |_::_,[]=>List.nil_sublist _
 |m::ms,b::bs=>by
  simp only[qB]
  split
  . exact(aAJ ms bs).cons _
  . exact(aAJ ms bs).cons_cons _
theorem aAH{t:Int}:(bs:List Int)->(qE t bs).Sublist bs
 |[]=>List.Sublist.slnil
 |b::bs=>by
  simp only[qE]
  split
  . exact(aAH bs).cons _
  . exact(aAH bs).cons_cons _
theorem aEQ{t:Int}:(ms bs:List Int)->bs.length=ms.length->(qE t bs).length=(qB t ms bs).length
 |[],[],_=>rfl
 |m::ms,b::bs,h=>by
  simp only[qB,qE]
  have:=aEQ (t:=t) ms bs (by simpa using h)
  split
  . exact this
  . simp only[Zg,this]
 |[],_::_,h=>by cases h
 |_::_,[],h=>by cases h
theorem aDK{g:aE}{rows t:Int}(h:iI g rows=true):iI (lQ g t) rows=true:=by
 obtain⟨⟨h1,h2,h3,h4⟩,h5,h6,h7,h8⟩:=gQ.1 h
 have s1:=aAJ (t:=t) g.2.1 g.2.2.1
 have s2:=aAH (t:=t) g.2.2.1
 have hu:=aFQ h3 h4
 refine gQ.2 ⟨⟨aEQ _ _ h1,h2,?_,?_⟩,fun m hm=>h5 m (s1.mem hm),h6.sublist s1,fun b hb=>h7 b (s2.mem hb),h8⟩
 . show 0<=cond (qZ t g.2.2.1) (upG g.1) g.1
   cases qZ t g.2.2.1
   . exact h3
   . exact hu.1
 . show cond (qZ t g.2.2.1) (upG g.1) g.1<=100000
   cases qZ t g.2.2.1
   . exact h4
   . exact hu.2
theorem aB0{who:Int}:(l:List Int)->(i:Int)->0<=i->¬0<=jI who l i->who∉l
 |[],_,_,_=>List.not_mem_nil
 |m::r,i,h0,h=>by
  simp only[jI] at h
  split at h
  . omega
  . rename_i hm
    rw[List.mem_cons]
    rintro(e|e)
    . exact hm e.symm
    . exact aB0 r (i+1) (by omega) h e
theorem aB2{who:Int}:(ms bs:List Int)->bs.length=ms.length->ms.Pairwise (·< ·)->who∉ms->(∀m∈ms.take (oA who ms bs),m<who)/\(∀m∈ms.drop (oA who ms bs),who<m)
 |[],bs,_,_,_=>by simp
 |m::ms,b::bs,h,hp,hn=>by
  simp only[oA]
  have hp':=List.pairwise_cons.1 hp
  rw[List.mem_cons,not_or] at hn
  split
  . rename_i hm
    have ih:=aB2 ms bs (by simpa using h) hp'.2 hn.2
    simp only[List.take_succ_cons,List.drop_succ_cons]
    exact⟨fun x hx=>by rcases List.mem_cons.1 hx with rfl|hx;exact hm;exact ih.1 x hx,ih.2⟩
  . rename_i hm
    simp only[List.take_zero,List.drop_zero]
    refine⟨fun x hx=>(by cases hx),fun x hx=>?_⟩
    have h1:who<m:=by have:=hn.1;omega
    rcases List.mem_cons.1 hx with rfl|hx
    . exact h1
    . exact Int.lt_trans h1 (hp'.1 x hx)
 |_::_,[],h,_,_=>by cases h
theorem aEr{k:Nat}{x y:Int}{l:List Int}(h:y∈zF k x l):y=x\/y∈l:=by
 unfold zF at h
 rcases Zp.1 h with h|h
 . exact .inr (List.mem_of_mem_take h)
 . rcases List.mem_cons.1 h with h|h
   . exact .inl h
   . exact .inr (List.mem_of_mem_drop h)
theorem aEL{k:Nat}{x:Int}{l:List Int}(h:k<=l.length):(zF k x l).length=l.length+1:=by
 unfold zF
 rw[Zf,Zg,Zr,Zs];omega
theorem qF{α:Type}{l:List α}{i:Nat}{v y:α}(h:y∈l.modify i (fun _=>v)):y=v\/y∈l:=by
 rw[nX] at h
 rcases List.mem_or_eq_of_mem_set h with h|h
 . exact .inr h
 . exact .inl h
theorem zI{g:aE}{rows who t:Int}(h:iI g rows=true)(h0:0<=t)(h1:t<=100000):iI (iJ g who t) rows=true:=by
 obtain⟨⟨g1,g2,g3,g4⟩,g5,g6,g7,g8⟩:=gQ.1 h
 unfold iJ
 split
 . rename_i hw
   have hw:=pC hw
   split
   . split
     . refine gQ.2 ⟨⟨by rw[List.length_modify];exact g1,g2,g3,g4⟩,g5,g6,fun b hb=>?_,g8⟩
       rcases qF hb with rfl|hb
       . exact⟨h0,h1⟩
       . exact g7 b hb
     . exact h
   . rename_i hf
     have hn:=aB0 _ _ (Int.le_refl 0) (show ¬0<=jI who g.2.1 0 from hf)
     have hs:=aB2 g.2.1 g.2.2.1 g1 g6 hn
     have hl:=aAm (who:=who) g.2.1 g.2.2.1
     have hu:=aFQ g3 g4
     refine gQ.2 ⟨⟨?_,g2,hu.1,hu.2⟩,fun m hm=>?_,?_,fun b hb=>?_,g8⟩
     . show(zF _ _ _).length=(zF _ _ _).length
       rw[aEL hl.2,aEL hl.1,g1]
     . rcases aEr hm with rfl|hm
       . exact hw
       . exact g5 m hm
     . show(zF _ _ _).Pairwise _
       unfold zF
       rw[List.pairwise_append]
       refine⟨g6.sublist (List.take_sublist _ _),List.pairwise_cons.2 ⟨hs.2,g6.sublist (List.drop_sublist _ _)⟩,fun a ha b hb=>?_⟩
       have:=hs.1 a ha
       rcases List.mem_cons.1 hb with rfl|hb
       . exact this
       . exact Int.lt_trans this (hs.2 b hb)
     . rcases aEr hb with rfl|hb
       . exact⟨h0,h1⟩
       . exact g7 b hb
 . exact h
theorem yH{g:aE}{rows who:Int}(h:iI g rows=true):iI (fD g who) rows=true:=by
 obtain⟨⟨g1,g2,g3,g4⟩,g5,g6,g7,g8⟩:=gQ.1 h
 unfold fD
 split
 . rename_i hf
   have hl:=tN (who:=who) g.2.1 0 (Int.le_refl _) hf.1
   have hu:=aFQ g3 g4
   have s1:=List.eraseIdx_sublist g.2.1 (atG g who).toNat
   have s2:=List.eraseIdx_sublist g.2.2.1 (atG g who).toNat
   refine gQ.2 ⟨⟨?_,g2,hu.1,hu.2⟩,fun m hm=>g5 m (s1.mem hm),g6.sublist s1,fun b hb=>g7 b (s2.mem hb),g8⟩
   show(g.2.2.1.eraseIdx _).length=(g.2.1.eraseIdx _).length
   rw[List.length_eraseIdx,List.length_eraseIdx,g1]
 . exact h
theorem aDX{g:aE}{rows who gen row off:Int}(h:iI g rows=true)(h0:0<=off)(h1:off<=100000):iI (gN g who gen row off).1 rows=true:=by
 obtain⟨⟨g1,g2,g3,g4⟩,g5,g6,g7,g8⟩:=gQ.1 h
 unfold gN
 split
 . refine gQ.2 ⟨⟨g1,by show((g.2.2.2.1.modify _ _).length:Int)=rows;rw[List.length_modify];exact g2,g3,g4⟩,g5,g6,g7,fun o ho=>?_⟩
   rcases qF ho with rfl|ho
   . exact⟨h0,h1⟩
   . exact g8 o ho
 . exact h
def aJ6(m:aC)(w:Int):Prop:=0<=m.1/\m.1<=3/\0<=m.2.1/\m.2.1<=3/\0<=m.2.2.1/\m.2.2.1<=100000/\-1<=m.2.2.2.1/\m.2.2.2.1<=100000/\(m.2.2.2.2.1.length:Int)<=w/\(m.2.2.2.2.1.length:Int)<=m.2.2.2.1+1/\(0<=m.2.2.2.1->0<m.2.2.2.2.1.length)
def makerP(m:aC)(w:Int):Prop:=aJ6 m w/\(∀j,j<m.2.2.2.2.1.length->(m.2.2.2.2.1.getD j pV).1=m.2.2.2.1-((m.2.2.2.2.1.length:Int)-1-j))/\(∀x∈m.2.2.2.2.1,0<=x.2.1/\x.2.1<=100000)/\m.2.2.2.2.1.Pairwise (fun a b=>a.2.1<b.2.1)
theorem aH0{xs:List bS}:(∀j,j<xs.length->aFc xs j=true)↔xs.Pairwise (fun a b=>a.2.1<b.2.1):=by
 constructor
 . intro h
   refine tQ (R:=fun(a b:bS)=>a.2.1<b.2.1) (fun _ _ _=>Int.lt_trans) pV _ fun j h0 h1=>?_
   have:=h j h1
   simp only[aFc,Bool.or_eq_true,Za] at this
   rcases this with h|h
   . omega
   . exact h
 . intro h j hj
   simp only[aFc,Bool.or_eq_true,Za]
   rcases Nat.eq_zero_or_pos j with h0|h0
   . exact .inl h0
   . exact .inr (xL h h0 hj)
theorem aFl{m:aC}{w:Int}(hw:w<=1000000)(h:makerP m w):dH m w=true:=by
 obtain⟨⟨h5,h6,h7,h8,h9,h10,h11,h12,h2,h3,h4⟩,k1,k2,k3⟩:=h
 simp only[dH,Zb,Za,aFG,aA,aAu,aBx]
 refine⟨⟨⟨h5,h6⟩,⟨h7,h8⟩,⟨h9,h10⟩,h11,h12⟩,h2,?_,fun j hj=>⟨?_,k2 _ (iO hj _),aH0.2 k3 j hj⟩⟩
 . by_cases e:m.2.2.2.1=-1
   . rw[Zd e,Zd (p:=(m.2.2.2.2.1.length:Int)=0) (by omega)];rfl
   . rw[decide_eq_false e,decide_eq_false (p:=(m.2.2.2.2.1.length:Int)=0) (by have:=h4 (by omega);omega)];rfl
 . rw[lN (n:=m.2.2.2.1-(m.2.2.2.2.1.length:Int)) (by omega) (by omega),lN (n:=m.2.2.2.1-(m.2.2.2.2.1.length:Int)+1) (by omega) (by omega),lN (by omega) (by omega)]
   have:=k1 j hj
   omega
theorem xX{xs:List aC}{row who w:Int}(h:∀m∈xs,makerP m w)(hr:0<=row/\row<=3)(hq:0<=who/\who<=3)(hw:0<=w):
 makerP (jS xs row who) w/\(jS xs row who).1=row/\(jS xs row who).2.1=who/\(jS xs row who∈xs\/(jS xs row who).2.2.2.2.1=[]):=by
 unfold jS
 cases hf:xs.find? (kT row who) with
 |none=>
  have hz:makerP (row,(who,((0:Int),((-1:Int),(([]:List bS),()))))) w:=⟨⟨hr.1,hr.2,hq.1,hq.2,Int.le_refl _,by show(0:Int)<=100000;omega,Int.le_refl _,by show(-1:Int)<=100000;omega,hw,by show(0:Int)<=-1+1;omega,fun h=>absurd h (by show ¬(0:Int)<=-1;omega)⟩,fun j hj=>absurd hj (Nat.not_lt_zero _),fun x hx=>absurd hx List.not_mem_nil,List.Pairwise.nil⟩
  exact⟨hz,rfl,rfl,.inr rfl⟩
 |some m=>
  have hm:=List.mem_of_find?_eq_some hf
  have hp:=List.find?_some hf
  simp only[kT,Zb,Za] at hp
  exact⟨h m hm,hp.1,hp.2,.inl hm⟩
theorem aCJ{α:Type}{a b:List α}{j:Nat}{d:α}(h:j<a.length):(a++b).getD j d=a.getD j d:=by
 rw[List.getD_eq_getElem?_getD,List.getD_eq_getElem?_getD,List.getElem?_append_left h]
theorem aBL{α:Type}{a:List α}{x d:α}:(a++[x]).getD a.length d=x:=by
 rw[List.getD_eq_getElem?_getD,List.getElem?_append_right (Nat.le_refl _),Nat.sub_self];rfl
theorem aGU{α:Type}{a:List α}{k j:Nat}{d:α}:(a.drop k).getD j d=a.getD (k+j) d:=by
 rw[List.getD_eq_getElem?_getD,List.getD_eq_getElem?_getD,List.getElem?_drop]
theorem aGr{m:aC}{w:Int}(h1:1<=w)(hm:0<m.2.2.2.2.1.length)(h:makerP m (m.2.2.2.2.1.length:Int)):makerP (m.1,(m.2.1,(m.2.2.1,(m.2.2.2.1,(oC w m.2.2.2.2.1,()))))) w:=by
 obtain⟨⟨h5,h6,h7,h8,h9,h10,h11,h12,h2,h3,h4⟩,k1,k2,k3⟩:=h
 have e:pG w 0=w:=by unfold pG;rw[if_pos (by omega)]
 have hl:(oC w m.2.2.2.2.1).length=m.2.2.2.2.1.length-(m.2.2.2.2.1.length-w.toNat):=by unfold oC;rw[e,Zs]
 refine⟨⟨h5,h6,h7,h8,h9,h10,h11,h12,?_,?_,fun _=>?_⟩,fun j hj=>?_,fun x hx=>k2 x (List.mem_of_mem_drop hx),k3.sublist (List.drop_sublist _ _)⟩
 . show((oC w m.2.2.2.2.1).length:Int)<=w;omega
 . show((oC w m.2.2.2.2.1).length:Int)<=m.2.2.2.1+1;omega
 . show 0<(oC w m.2.2.2.2.1).length;omega
 . show((oC w m.2.2.2.2.1).getD j _).1=m.2.2.2.1-(((oC w m.2.2.2.2.1).length:Int)-1-j)
   have hj:j<(oC w m.2.2.2.2.1).length:=hj
   rw[hl] at hj ⊢
   unfold oC
   rw[e,aGU,k1 _ (by omega)]
   omega
theorem aFB{m:aC}{w epoch seq off:Int}(h:makerP m w)(hw:1<=w)(he:epoch<=100000)(hq:0<=seq/\seq<=100000)(ho:0<=off/\off<=100000)(hlt:∀x∈m.2.2.2.2.1,x.2.1<off)(ha:(cN m epoch seq).1=0):
 makerP (iP m w epoch seq off) w/\(iP m w epoch seq off).1=m.1/\(iP m w epoch seq off).2.1=m.2.1/\∀x∈(iP m w epoch seq off).2.2.2.2.1,x.2.1<=off:=by
 obtain⟨⟨h5,h6,h7,h8,h9,h10,h11,h12,h2,h3,h4⟩,k1,k2,k3⟩:=h
 rw[show iP m w epoch seq off=_ from if_pos ha]
 unfold cN at ha
 by_cases c1:epoch<m.2.2.1
 . rw[if_pos c1] at ha;cases ha
 rw[if_neg c1] at ha
 by_cases c2:m.2.2.1<epoch
 . rw[if_pos c2] at ha
   by_cases c3:seq=0
   . rw[if_pos c2]
     subst c3
     refine⟨aGr (m:=(m.1,(m.2.1,(epoch,((0:Int),([((0:Int),(off,()))],())))))) hw (by show 0<1;omega) ⟨⟨h5,h6,h7,h8,by show 0<=epoch;omega,he,by show(-1:Int)<=0;omega,by show(0:Int)<=100000;omega,Int.le_refl _,by show((1:Nat):Int)<=0+1;omega,fun _=>by show 0<1;omega⟩,fun j hj=>?_,fun x hx=>?_,List.pairwise_singleton _ _⟩,rfl,rfl,fun x hx=>?_⟩
     . have:j=0:=by have:j<1:=hj;omega
       subst this;rfl
     . rw[Zq] at hx;subst hx;exact ho
     . have:=List.mem_of_mem_drop hx
       rw[List.nil_append,Zq] at this;subst this;exact Int.le_refl _
   . rw[if_neg c3] at ha;cases ha
 rw[if_neg c2] at ha
 have hee:epoch=m.2.2.1:=by omega
 by_cases c4:m.2.2.2.1<seq
 . rw[if_pos c4] at ha
   by_cases c5:wrap .i64 (seq-1)=m.2.2.2.1
   . rw[lN (by omega) (by omega)] at c5
     rw[if_neg c2]
     subst hee
     have hm:∀x∈m.2.2.2.2.1++[(seq,(off,()))],(0<=x.2.1/\x.2.1<=100000)/\x.2.1<=off:=by
      intro x hx
      rcases Zp.1 hx with hx|hx
      . exact⟨k2 x hx,Int.le_of_lt (hlt x hx)⟩
      . rw[Zq] at hx;subst hx;exact⟨ho,Int.le_refl _⟩
     refine⟨aGr (m:=(m.1,(m.2.1,(m.2.2.1,(seq,(m.2.2.2.2.1++[(seq,(off,()))],())))))) hw (by simp) ⟨⟨h5,h6,h7,h8,h9,h10,by show -1<=seq;omega,hq.2,Int.le_refl _,?_,fun _=>by simp⟩,fun j hj=>?_,fun x hx=>(hm x hx).1,?_⟩,rfl,rfl,fun x hx=>(hm x (List.mem_of_mem_drop hx)).2⟩
     . show((m.2.2.2.2.1++[(seq,(off,()))]).length:Int)<=seq+1
       rw[Zf,Zg,Zh];omega
     . show((m.2.2.2.2.1++[(seq,(off,()))]).getD j _).1=seq-(((m.2.2.2.2.1++[(seq,(off,()))]).length:Int)-1-j)
       have hj:j<(m.2.2.2.2.1++[(seq,(off,()))]).length:=hj
       rw[Zf,Zg,Zh] at hj ⊢
       by_cases c:j<m.2.2.2.2.1.length
       . rw[aCJ c,k1 j c];omega
       . rw[show j=m.2.2.2.2.1.length by omega,aBL];show seq=_;omega
     . show(m.2.2.2.2.1++[(seq,(off,()))]).Pairwise _
       rw[List.pairwise_append]
       refine⟨k3,List.pairwise_singleton _ _,fun a ha b hb=>?_⟩
       rw[Zq] at hb;subst hb
       exact hlt a ha
   . rw[if_neg c5] at ha;cases ha
 . rw[if_neg c4] at ha
   split at ha<;>cases ha
def ltM(a b:aC):Prop:=a.1<b.1\/(a.1=b.1/\a.2.1<b.2.1)
theorem yX{m:aC}:(r:List aC)->(∀x∈r,ltM m x)->gV m true r=r
 |[],_=>rfl
 |x::r,h=>by
  have hx:=h x List.mem_cons_self
  have hk:kT m.1 m.2.1 x=false:=by
   simp only[kT,Bool.and_eq_false_iff,Zv]
   rcases hx with hx|hx<;>omega
  simp only[gV,hk,cond_false,Bool.not_true,Bool.false_and]
  rw[yX r fun y hy=>h y (Zo _ hy)]
theorem aCn{m:aC}:(xs:List aC)->xs.Pairwise ltM->(gV m false xs).Pairwise ltM/\∀x∈gV m false xs,x=m\/x∈xs
 |[],_=>⟨List.pairwise_singleton _ _,fun x hx=>.inl (Zq.1 hx)⟩
 |x::r,h=>by
  have hp:=List.pairwise_cons.1 h
  simp only[gV,cond_false,Bool.not_false,Bool.true_and]
  cases hk:kT m.1 m.2.1 x
  . cases hl:oD x m
    . have hxm:ltM x m:=by
       simp only[kT,Bool.and_eq_false_iff,Zv] at hk
       simp only[oD,Bool.or_eq_false_iff,Bool.and_eq_false_iff,Zv] at hl
       unfold ltM
       omega
      have ih:=aCn (m:=m) r hp.2
      refine⟨List.pairwise_cons.2 ⟨fun y hy=>?_,ih.1⟩,fun y hy=>?_⟩
      . rcases ih.2 y hy with rfl|hy
        . exact hxm
        . exact hp.1 y hy
      . rcases List.mem_cons.1 hy with rfl|hy
        . exact .inr List.mem_cons_self
        . rcases ih.2 y hy with h|h
          . exact .inl h
          . exact .inr (Zo _ h)
    . have hmx:ltM m x:=by
       simp only[oD,Bool.or_eq_true,Zb,Za] at hl
       unfold ltM
       omega
      have hall:∀y∈r,ltM m y:=fun y hy=>by
       have:=hp.1 y hy
       unfold ltM at *
       omega
      simp only[cond_true,cond_false]
      rw[yX r hall]
      refine⟨List.pairwise_cons.2 ⟨fun y hy=>?_,h⟩,fun y hy=>?_⟩
      . rcases List.mem_cons.1 hy with rfl|hy
        . exact hmx
        . exact hall y hy
      . rcases List.mem_cons.1 hy with h|h
        . exact .inl h
        . exact .inr h
  . simp only[kT,Zb,Za] at hk
    have hall:∀y∈r,ltM m y:=fun y hy=>by
     have:=hp.1 y hy
     unfold ltM at *
     omega
    simp only[cond_true]
    rw[yX r hall]
    refine⟨List.pairwise_cons.2 ⟨hall,hp.2⟩,fun y hy=>?_⟩
    rcases List.mem_cons.1 hy with h|h
    . exact .inl h
    . exact .inr (Zo _ h)
theorem aHw{mk:aC->Int->Bool}{s:aP}{ms:List aC}:vH (yF mk s ms) 0 ms.length=true↔(∀m∈ms,mk m s.2.1=true/\m.1<s.1)/\ms.Pairwise ltM:=by
 rw[aAu]
 constructor
 . intro h
   refine⟨fun m hm=>?_,tQ (R:=ltM) (fun a b c=>by unfold ltM;omega) kK _ fun j h0 h1=>?_⟩
   . obtain⟨j,hj,rfl⟩:=aBX hm kK
     have:=h j hj
     simp only[yF,Zb,Za] at this
     exact⟨this.1,this.2.1⟩
   . have:=h j h1
     simp only[yF,Zb,Bool.or_eq_true,Za,Bool.not_eq_true',Bool.and_eq_false_iff,Zv] at this
     unfold ltM
     omega
 . rintro⟨h1,h2⟩ j hj
   have ha:=h1 _ (iO hj kK)
   simp only[yF,Zb,Bool.or_eq_true,Za,Bool.not_eq_true',Bool.and_eq_false_iff,Zv]
   refine⟨ha.1,ha.2,?_⟩
   rcases Nat.eq_zero_or_pos j with h0|h0
   . exact .inl h0
   . have:=xL (d:=kK) h2 h0 hj
     unfold ltM at this
     omega
open Classical in
noncomputable def B(p:Prop):Bool:=decide p
theorem cP{p:Prop}:B p=true↔p:=by simp[B]
def aII(s:aP)(rows:List bW)(ms:List aC):Prop:=(∀m∈ms,makerP m s.2.1/\m.1<s.1/\∀x∈m.2.2.2.2.1,x.2.1<(rows.getD m.1.toNat mQ).2.1)/\ms.Pairwise ltM
def kD(s:aP)(k:bB):Prop:=
 (dK s=true/\(k.1.length:Int)=s.1/\k.2.2.1.length=2/\k.2.2.2.2.1.length=4/\k.2.2.2.2.2.1.length=4/\0<=k.2.2.2.1/\k.2.2.2.1<=100000)/\(∀r∈k.1,fI r=true)/\(∀g∈k.2.2.1,iI g s.1=true)/\(∀d∈k.2.2.2.2.1,0<=d/\d<=100000)/\(∀a∈k.2.2.2.2.2.1,eL a=true)/\aII s k.1 k.2.1
theorem fT{s:aP}(h:dK s=true):1<=s.1/\s.1<=4/\1<=s.2.1/\s.2.1<=5/\1<=s.2.2.1/\s.2.2.1<=8/\0<=s.2.2.2.1/\s.2.2.2.1<=60:=by
 simp only[dK,aA,Zb,Za] at h
 omega
theorem jF{c:fQ}(h:kZ c=true)(h0:0<=c.1):c.1<=3/\(1<=c.2.1/\c.2.1<=100000)/\(1<=c.2.2.1/\c.2.2.1<=10)/\(0<=c.2.2.2.1/\c.2.2.2.1<=100000)/\(0<=c.2.2.2.2.1/\c.2.2.2.2.1<=100000)/\(0<=c.2.2.2.2.2.1/\c.2.2.2.2.2.1<=100000)/\dQ c.2.2.2.2.2.2.1=true/\dQ c.2.2.2.2.2.2.2.1=true:=by
 unfold kZ at h
 rw[if_neg (by omega)] at h
 simp only[aA,Zb,Za] at h
 obtain⟨⟨_,h1⟩,h2,h3,h4,h5,h6,h7,h8⟩:=h
 exact⟨h1,h2,h3,h4,h5,h6,h7,h8⟩
theorem aDy{s:aP}{k:bB}{mk:aC->Int->Bool}(hm:∀m w,w<=1000000->makerP m w->mk m w=true)(h:kD s k):aCi mk s k=true:=by
 obtain⟨⟨h0,h1,h2,h3,h4,h5,h6⟩,k1,k2,k3,k4,k5,k6⟩:=h
 have hs:=fT h0
 simp only[aCi,Zb,Za,aA,bT,Zu]
 refine⟨h0,h1,by omega,⟨h5,h6⟩,by omega,k3,by omega,aHw.2 ⟨fun m hm'=>⟨hm _ _ (by omega) (k5 m hm').1,(k5 m hm').2.1⟩,k6⟩,k1,k2,k4⟩
theorem aCW{s:aP}{k:bB}(h:kD s k):dY s k=true:=aDy (fun _ _ hw h=>aFl hw h) h
theorem aFo{α:Type}{f:α->Int}{n:Int}:(l:List α)->(a:Int)->(∀m∈l,a<=f m/\f m<n)->l.Pairwise (fun x y=>f x<f y)->l.length<=(n-a).toNat
 |[],_,_,_=>Nat.zero_le _
 |m::r,a,h,hp=>by
  have h1:=h m List.mem_cons_self
  have:=aFo (f:=f) (n:=n) r (f m+1) (fun x hx=>by have h2:f m<f x:=(List.pairwise_cons.1 hp).1 x hx;have:=h x (Zo _ hx);omega) (List.pairwise_cons.1 hp).2
  simp only[Zg];omega
theorem aIU{s:aP}{rows:List bW}{ms:List aC}(h:aII s rows ms):ms.length<=16:=by
 have:=aFo (f:=fun m:aC=>4*m.1+m.2.1) (n:=16) ms 0 (fun m hm=>by
  obtain⟨⟨⟨h1,h2,h3,h4,_⟩,_⟩,_⟩:=h.1 m hm
  omega) (List.Pairwise.imp_of_mem (fun{a b} ha hb hab=>by
   obtain⟨⟨⟨h1,h2,h3,h4,_⟩,_⟩,_⟩:=h.1 a ha
   obtain⟨⟨⟨g1,g2,g3,g4,_⟩,_⟩,_⟩:=h.1 b hb
   unfold ltM at hab
   omega) h.2)
 omega
theorem aER{s:aP}{rows:List bW}{ms:List aC}(hs:s.2.1<=5)(h:aII s rows ms):uY ms=true:=by
 rw[rB]
 have:=aIU h
 refine⟨by omega,fun m hm=>?_⟩
 obtain⟨⟨⟨_,_,_,_,_,_,_,_,h2,_⟩,_⟩,_⟩:=h.1 m hm
 omega
theorem aFt{r:bW}(h:fI r=true):aFf r.2.2.1=true/\bQ r.2.2.1=true:=by
 have:=(lO.1 h).1.2.2.2
 rw[zO,bJ];omega
theorem aBK{s:aP}{k:bB}(h:kD s k):tX k=true:=by
 obtain⟨⟨h0,h1,h2,h3,h4,h5,h6⟩,k1,k2,k3,k4,k5⟩:=h
 have hs:=fT h0
 have hm:=rB.1 (aER (by omega) k5)
 simp only[tX,Zb,Zu,bJ]
 exact⟨by omega,fun r hr=>bJ.1 (aFt (k1 r hr)).2,hm.1,hm.2,by omega,fun g hg=>(xO (k2 g hg) hs.2.1).1,by omega,by omega⟩
def mK(code n:Int):aF:=(code,(n,(([]:List UInt8),(([]:List UInt8),()))))
theorem oF{code n:Int}(h0:0<=code)(h1:code<=9)(h2:-1<=n)(h3:n<=100000):eL (mK code n)=true:=by
 have hw:dQ []=true:=by decide
 show eL (code,(n,(([]:List UInt8),(([]:List UInt8),()))))=true
 simp only[eL,aA,Zb,Za,hw]
 exact⟨⟨h0,h1⟩,⟨h2,h3⟩,trivial,trivial⟩
def rA(k:bB)(i:Int)(g:aE):bB:=(k.1,(k.2.1,(k.2.2.1.modify i.toNat (fun _=>g),k.2.2.2)))
def kB(k:bB)(c:fQ):aE:=k.2.2.1.getD c.2.2.2.1.toNat qX
def nL(s:aP)(k:bB)(c:fQ):bB×aF:=
 if c.2.2.1=4 then(rA k c.2.2.2.1 (iJ (kB k c) c.1 k.2.2.2.1),mK 0 (iJ (kB k c) c.1 k.2.2.2.1).1)
 else if c.2.2.1=5 then(rA k c.2.2.2.1 (fD (kB k c) c.1),mK 0 (fD (kB k c) c.1).1)
 else if c.2.2.1=6 then cond (gN (kB k c) c.1 (kB k c).1 c.2.2.2.2.1 c.2.2.2.2.2.1).2 (rA k c.2.2.2.1 (gN (kB k c) c.1 (kB k c).1 c.2.2.2.2.1 c.2.2.2.2.2.1).1,mK 0 c.2.2.2.2.2.1) (k,mK 9 0)
 else if s.1<=c.2.2.2.2.1 then(k,mK 5 0) else(k,mK 0 ((kB k c).2.2.2.1.getD c.2.2.2.2.1.toNat 0))
theorem lS{α:Type}{l:List α}{i:Nat}{v d:α}(h:i<l.length):(l.modify i (fun _=>v)).getD i d=v:=by
 rw[nX,List.getD_eq_getElem?_getD,List.getElem?_set_self h];rfl
theorem sH{α:Type}{l:List α}{i j:Nat}{v d:α}(h:i≠j):(l.modify i (fun _=>v)).getD j d=l.getD j d:=by
 rw[nX,List.getD_eq_getElem?_getD,List.getD_eq_getElem?_getD,List.getElem?_set_ne h]
def yB(s:aP)(k:bB)(c:fQ):Prop:=kD s k/\kZ c=true/\0<=c.1
namespace kJ
noncomputable def pre(s:aP)(k:bB)(c:fQ):Bool:=B (yB s k c/\c.2.2.2.1<2)
abbrev wf(x0:aP)(x1:bB)(x2:fQ):Prop:=iM [(.val vY .f),(.val zk1 .o),(.val wN .f)] (x0,(x1,(x2,())))
noncomputable def aQ(x0:aP)(x1:bB)(x2:fQ):Option (Unit×(bB×uW)):=
 if(decide ((0:Int)<=x2.2.2.2.1))=true then
 if(decide (x2.2.2.2.1<((length x1.2.2.1:Nat):Int)))=true then
 if(decide (x2.2.2.1=(4:Int)))=true then
 if(fX.pre (List.getD x1.2.2.1 (Int.toNat x2.2.2.2.1) qX) x2.1 x1.2.2.2.1)=true then
 if(decide ((0:Int)<=x2.2.2.2.1))=true then
 if(decide (x2.2.2.2.1<((length x1.2.2.1:Nat):Int)))=true then
 if(decide ((0:Int)<=x2.2.2.2.1))=true then
 if(decide (x2.2.2.2.1<((length (List.modify x1.2.2.1 (Int.toNat x2.2.2.2.1) (fun z=>(iJ (List.getD x1.2.2.1 (Int.toNat x2.2.2.2.1) qX) x2.1 x1.2.2.2.1))):Nat):Int)))=true then
 some ((),((x1.1,(x1.2.1,((List.modify x1.2.2.1 (Int.toNat x2.2.2.2.1) (fun z=>(iJ (List.getD x1.2.2.1 (Int.toNat x2.2.2.2.1) qX) x2.1 x1.2.2.2.1))),x1.2.2.2))),(((0:Int),((List.getD (List.modify x1.2.2.1 (Int.toNat x2.2.2.2.1) (fun z=>(iJ (List.getD x1.2.2.1 (Int.toNat x2.2.2.2.1) qX) x2.1 x1.2.2.2.1))) (Int.toNat x2.2.2.2.1) qX).1,(([]:List UInt8),(([]:List UInt8),())))),())))
 else
 none
 else
 none
 else
 none
 else
 none
 else
 none
 else
 if(decide (x2.2.2.1=(5:Int)))=true then
 if(iD.pre (List.getD x1.2.2.1 (Int.toNat x2.2.2.2.1) qX) x2.1)=true then
 if(decide ((0:Int)<=x2.2.2.2.1))=true then
 if(decide (x2.2.2.2.1<((length x1.2.2.1:Nat):Int)))=true then
 if(decide ((0:Int)<=x2.2.2.2.1))=true then
 if(decide (x2.2.2.2.1<((length (List.modify x1.2.2.1 (Int.toNat x2.2.2.2.1) (fun z=>(fD (List.getD x1.2.2.1 (Int.toNat x2.2.2.2.1) qX) x2.1))):Nat):Int)))=true then
 some ((),((x1.1,(x1.2.1,((List.modify x1.2.2.1 (Int.toNat x2.2.2.2.1) (fun z=>(fD (List.getD x1.2.2.1 (Int.toNat x2.2.2.2.1) qX) x2.1))),x1.2.2.2))),(((0:Int),((List.getD (List.modify x1.2.2.1 (Int.toNat x2.2.2.2.1) (fun z=>(fD (List.getD x1.2.2.1 (Int.toNat x2.2.2.2.1) qX) x2.1))) (Int.toNat x2.2.2.2.1) qX).1,(([]:List UInt8),(([]:List UInt8),())))),())))
 else
 none
 else
 none
 else
 none
 else
 none
 else
 none
 else
 if(decide (x2.2.2.1=(6:Int)))=true then
 if(hZ.pre (List.getD x1.2.2.1 (Int.toNat x2.2.2.2.1) qX) x2.1 (List.getD x1.2.2.1 (Int.toNat x2.2.2.2.1) qX).1 x2.2.2.2.2.1 x2.2.2.2.2.2.1)=true then
 letB (gN (List.getD x1.2.2.1 (Int.toNat x2.2.2.2.1) qX) x2.1 (List.getD x1.2.2.1 (Int.toNat x2.2.2.2.1) qX).1 x2.2.2.2.2.1 x2.2.2.2.2.2.1) fun v1=>
 if(!v1.2)=true then
 some ((),(x1,(((9:Int),mP),())))
 else
 if(decide ((0:Int)<=x2.2.2.2.1))=true then
 if(decide (x2.2.2.2.1<((length x1.2.2.1:Nat):Int)))=true then
 some ((),((x1.1,(x1.2.1,((List.modify x1.2.2.1 (Int.toNat x2.2.2.2.1) (fun z=>v1.1)),x1.2.2.2))),(((0:Int),(x2.2.2.2.2.2.1,(([]:List UInt8),(([]:List UInt8),())))),())))
 else
 none
 else
 none
 else
 none
 else
 if(decide (x0.1<=x2.2.2.2.2.1))=true then
 some ((),(x1,(((5:Int),mP),())))
 else
 if(decide ((0:Int)<=x2.2.2.2.2.1))=true then
 if(decide (x2.2.2.2.2.1<((length (List.getD x1.2.2.1 (Int.toNat x2.2.2.2.1) qX).2.2.2.1:Nat):Int)))=true then
 some ((),(x1,(((0:Int),((List.getD (List.getD x1.2.2.1 (Int.toNat x2.2.2.2.1) qX).2.2.2.1 (Int.toNat x2.2.2.2.2.1) (0:Int)),(([]:List UInt8),(([]:List UInt8),())))),())))
 else
 none
 else
 none
 else
 none
 else
 none
theorem eq(x0:aP)(x1:bB)(x2:fQ)(_:wf x0 x1 x2)(hp:pre x0 x1 x2=true):aQ x0 x1 x2=some ((),((nL x0 x1 x2).1,((nL x0 x1 x2).2,()))):=by
 obtain⟨⟨hk,hc,hw⟩,hA⟩:=cP.1 hp
 obtain⟨⟨h0,h1,h2,h3,h4,h5,h6⟩,k1,k2,k3,k4,k5⟩:=hk
 have hs:=fT h0
 have cf:=jF hc hw
 have hA0:=cf.2.2.2.1.1
 have hAl:x2.2.2.2.1<(x1.2.2.1.length:Int):=by omega
 have hn:x2.2.2.2.1.toNat<x1.2.2.1.length:=by omega
 have hg:iI (kB x1 x2) x0.1=true:=k2 _ (iO hn _)
 have hgs:=(xO hg hs.2.1).1
 have ho:=(gQ.1 hg).1.2.1
 refine wH ?_
 unfold aQ nL
 refine aG (Zd hA0) (aG (Zd hAl) ?_)
 show Wp (if decide (x2.2.2.1=4)=true then(if fX.pre (kB x1 x2) x2.1 x1.2.2.2.1=true then _ else none) else _) _
 have ml:∀g:aE,decide (x2.2.2.2.1<(((x1.2.2.1.modify x2.2.2.2.1.toNat (fun _=>g)).length:Nat):Int))=true:=fun g=>by rw[List.length_modify];exact Zd hAl
 by_cases c1:x2.2.2.1=4
 . rw[if_pos c1]
   refine aG (Zd c1) (aG (show fX.pre _ _ _=true from hgs) (aG (Zd hA0) (aG (Zd hAl) (aG (Zd hA0) (aG (ml _) (aH ?_))))))
   show(rA x1 x2.2.2.2.1 (iJ (kB x1 x2) x2.1 x1.2.2.2.1),mK 0 ((x1.2.2.1.modify x2.2.2.2.1.toNat (fun _=>iJ (kB x1 x2) x2.1 x1.2.2.2.1)).getD x2.2.2.2.1.toNat qX).1)=_
   rw[lS hn]
 rw[if_neg c1]
 refine eG (by rw[Za];exact c1) ?_
 by_cases c2:x2.2.2.1=5
 . rw[if_pos c2]
   refine aG (Zd c2) (aG (show iD.pre _ _=true from hgs) (aG (Zd hA0) (aG (Zd hAl) (aG (Zd hA0) (aG (ml _) (aH ?_))))))
   show(rA x1 x2.2.2.2.1 (fD (kB x1 x2) x2.1),mK 0 ((x1.2.2.1.modify x2.2.2.2.1.toNat (fun _=>fD (kB x1 x2) x2.1)).getD x2.2.2.2.1.toNat qX).1)=_
   rw[lS hn]
 rw[if_neg c2]
 refine eG (by rw[Za];exact c2) ?_
 by_cases c3:x2.2.2.1=6
 . rw[if_pos c3]
   refine aG (Zd c3) (aG (show hZ.pre (kB x1 x2) _ _ _ _=true from hgs) (bR ?_))
   show Wp (if(!(gN (kB x1 x2) x2.1 (kB x1 x2).1 x2.2.2.2.2.1 x2.2.2.2.2.2.1).2)=true then _ else _) _
   cases h:(gN (kB x1 x2) x2.1 (kB x1 x2).1 x2.2.2.2.2.1 x2.2.2.2.2.2.1).2
   . exact aG rfl (aH rfl)
   . exact eG (by decide) (aG (Zd hA0) (aG (Zd hAl) (aH rfl)))
 rw[if_neg c3]
 refine eG (by rw[Za];exact c3) ?_
 by_cases c4:x0.1<=x2.2.2.2.2.1
 . rw[if_pos c4]
   exact aG (Zd c4) (aH rfl)
 . rw[if_neg c4]
   exact eG (by rw[Za];exact c4) (aG (Zd cf.2.2.2.2.1.1) (aG (Zd (show x2.2.2.2.2.1<((kB x1 x2).2.2.2.1.length:Int) by omega)) (aH rfl)))
end kJ
abbrev kJ:=nL
theorem wB{s:aP}{k:bB}{i:Int}{g:aE}(h:kD s k)(hg:iI g s.1=true):kD s (rA k i g):=by
 obtain⟨⟨h0,h1,h2,h3,h4,h5,h6⟩,k1,k2,k3⟩:=h
 refine⟨⟨h0,h1,?_,h3,h4,h5,h6⟩,k1,fun x hx=>?_,k3⟩
 . show(k.2.2.1.modify _ _).length=2
   rw[List.length_modify];exact h2
 . rcases qF hx with rfl|hx
   . exact hg
   . exact k2 x hx
theorem aFA{s:aP}{k:bB}{c:fQ}(h:yB s k c)(hA:c.2.2.2.1<2):kD s (nL s k c).1/\eL (nL s k c).2=true:=by
 obtain⟨hk,hc,hw⟩:=h
 have hk':=hk
 obtain⟨⟨h0,h1,h2,h3,h4,h5,h6⟩,k1,k2,k3,k4,k5⟩:=hk'
 have cf:=jF hc hw
 have hg:iI (kB k c) s.1=true:=k2 _ (iO (by omega) _)
 have gen:∀g:aE,iI g s.1=true->eL (mK 0 g.1)=true:=fun g hg=>by
  have:=(gQ.1 hg).1
  exact oF (by omega) (by omega) (by omega) (by omega)
 unfold nL
 split
 . exact⟨wB hk (zI hg h5 h6),gen _ (zI hg h5 h6)⟩
 split
 . exact⟨wB hk (yH hg),gen _ (yH hg)⟩
 split
 . cases(gN (kB k c) c.1 (kB k c).1 c.2.2.2.2.1 c.2.2.2.2.2.1).2
   . exact⟨hk,oF (by omega) (by omega) (by omega) (by omega)⟩
   . exact⟨wB hk (aDX hg cf.2.2.2.2.2.1.1 cf.2.2.2.2.2.1.2),oF (by omega) (by omega) (by have:=cf.2.2.2.2.2.1;omega) cf.2.2.2.2.2.1.2⟩
 split
 . exact⟨hk,oF (by omega) (by omega) (by omega) (by omega)⟩
 . rename_i hB
   have hgo:=gQ.1 hg
   have:=hgo.2.2.2.2 _ (iO (show c.2.2.2.2.1.toNat<(kB k c).2.2.2.1.length by have:=cf.2.2.2.2.1;have:=hgo.1.2.1;omega) 0)
   exact⟨hk,oF (by omega) (by omega) (by omega) (by omega)⟩
def fP(k:bB)(c:fQ):bW:=k.1.getD c.2.2.2.1.toNat mQ
def yT(k:bB)(i:Int)(r:bW):bB:=(k.1.modify i.toNat (fun _=>r),k.2)
def mY(s:aP)(k:bB)(c:fQ):bW×(Int×Bool):=mF (fP k c) c.2.2.2.2.2.2.1 c.2.2.2.2.2.2.2.1 c.1 k.2.2.2.1
def mW(k:bB)(c:fQ):aC:=jS k.2.1 c.2.2.2.1 c.1
def oB(s:aP)(k:bB)(c:fQ):bB×aF:=
 if(cN (mW k c) c.2.2.2.2.2.1 c.2.2.2.2.1).1=1 then(k,mK 1 (cN (mW k c) c.2.2.2.2.2.1 c.2.2.2.2.1).2)
 else if(cN (mW k c) c.2.2.2.2.2.1 c.2.2.2.2.1).1=2 then(k,mK 2 0)
 else if(cN (mW k c) c.2.2.2.2.2.1 c.2.2.2.2.1).1=3 then(k,mK 3 0)
 else if(cN (mW k c) c.2.2.2.2.2.1 c.2.2.2.2.1).1=4 then(k,mK 4 0)
 else cond (mY s k c).2.2 ((k.1.modify c.2.2.2.1.toNat (fun _=>(mY s k c).1),(nB k.2.1 (iP (mW k c) s.2.1 c.2.2.2.2.2.1 c.2.2.2.2.1 (mY s k c).2.1),k.2.2)),mK 0 (mY s k c).2.1) (k,mK 8 0)
theorem xP{xs:List aC}{row who:Int}(h:uY xs=true):bQ (jS xs row who).2.2.2.2.1=true:=by
 unfold jS
 cases hf:xs.find? (kT row who) with
 |none=>rfl
 |some m=>exact bJ.2 ((rB.1 h).2 m (List.mem_of_find?_eq_some hf))
theorem aCx{m:aC}{w e q o:Int}(h:m.2.2.2.2.1.length<=1000):bQ (iP m w e q o).2.2.2.2.1=true:=by
 rw[bJ]
 unfold iP
 split
 . have h1:(oC w ((if m.2.2.1<e then[] else m.2.2.2.2.1)++[(q,(o,()))])).length<=((if m.2.2.1<e then[] else m.2.2.2.2.1)++[(q,(o,()))]).length:=by
    unfold oC;rw[Zs];omega
   have h2:((if m.2.2.1<e then[] else m.2.2.2.2.1)++[(q,(o,()))]).length<=1001:=by
    rw[Zf]
    split
    . simp
    . simp;omega
   show(oC _ _).length<=_
   omega
 . omega
namespace lG
noncomputable def pre(s:aP)(k:bB)(c:fQ):Bool:=B (yB s k c/\c.2.2.2.1<s.1)
abbrev wf(x0:aP)(x1:bB)(x2:fQ):Prop:=iM [(.val vY .f),(.val zk1 .o),(.val wN .f)] (x0,(x1,(x2,())))
noncomputable def aQ(x0:aP)(x1:bB)(x2:fQ):Option (Unit×(bB×uW)):=
 if(fU.pre x1.2.1 x2.2.2.2.1 x2.1)=true then
 letB (jS x1.2.1 x2.2.2.2.1 x2.1) fun v1=>
 if(eS.pre v1 x2.2.2.2.2.2.1 x2.2.2.2.2.1)=true then
 letB (cN v1 x2.2.2.2.2.2.1 x2.2.2.2.2.1) fun v2=>
 if(decide (v2.1=(1:Int)))=true then
 some ((),(x1,(((1:Int),(v2.2,(([]:List UInt8),(([]:List UInt8),())))),())))
 else
 if(decide (v2.1=(2:Int)))=true then
 some ((),(x1,(((2:Int),mP),())))
 else
 if(decide (v2.1=(3:Int)))=true then
 some ((),(x1,(((3:Int),mP),())))
 else
 if(decide (v2.1=(4:Int)))=true then
 some ((),(x1,(((4:Int),mP),())))
 else
 if(decide ((0:Int)<=x2.2.2.2.1))=true then
 if(decide (x2.2.2.2.1<((length x1.1:Nat):Int)))=true then
 if(jZ.pre (List.getD x1.1 (Int.toNat x2.2.2.2.1) mQ) x2.2.2.2.2.2.2.1 x2.2.2.2.2.2.2.2.1 x2.1 x1.2.2.2.1)=true then
 letB (mF (List.getD x1.1 (Int.toNat x2.2.2.2.1) mQ) x2.2.2.2.2.2.2.1 x2.2.2.2.2.2.2.2.1 x2.1 x1.2.2.2.1) fun v3=>
 if(!v3.2.2)=true then
 some ((),(x1,(((8:Int),mP),())))
 else
 if(decide ((0:Int)<=x2.2.2.2.1))=true then
 if(decide (x2.2.2.2.1<((length x1.1:Nat):Int)))=true then
 if(jJ.pre v1 x0.2.1 x2.2.2.2.2.2.1 x2.2.2.2.2.1 v3.2.1)=true then
 letB (iP v1 x0.2.1 x2.2.2.2.2.2.1 x2.2.2.2.2.1 v3.2.1) fun v4=>
 if(gB.pre x1.2.1 v4)=true then
 letB (nB x1.2.1 v4) fun v5=>
 some ((),(((List.modify x1.1 (Int.toNat x2.2.2.2.1) (fun z=>v3.1)),(v5,x1.2.2)),(((0:Int),(v3.2.1,(([]:List UInt8),(([]:List UInt8),())))),())))
 else
 none
 else
 none
 else
 none
 else
 none
 else
 none
 else
 none
 else
 none
 else
 none
 else
 none
theorem eq(x0:aP)(x1:bB)(x2:fQ)(_:wf x0 x1 x2)(hp:pre x0 x1 x2=true):aQ x0 x1 x2=some ((),((oB x0 x1 x2).1,((oB x0 x1 x2).2,()))):=by
 obtain⟨⟨hk,hc,hw⟩,hA⟩:=cP.1 hp
 obtain⟨⟨h0,h1,h2,h3,h4,h5,h6⟩,k1,k2,k3,k4,k5⟩:=hk
 have hs:=fT h0
 have cf:=jF hc hw
 have hA0:=cf.2.2.2.1.1
 have hAl:x2.2.2.2.1<(x1.1.length:Int):=by omega
 have hr:fI (fP x1 x2)=true:=k1 _ (iO (by omega) _)
 have hms:=aER (by omega) k5
 have hmk:=xX (row:=x2.2.2.2.1) (who:=x2.1) (w:=x0.2.1) (fun m hm=>(k5.1 m hm).1) ⟨hA0,by omega⟩ ⟨hw,cf.1⟩ (by omega)
 refine wH ?_
 unfold aQ
 refine aG (show fU.pre _ _ _=true from hms) (bR (aG (show eS.pre _ _ _=true from xP hms) (bR ?_)))
 show Wp (if decide ((cN (mW x1 x2) x2.2.2.2.2.2.1 x2.2.2.2.2.1).1=1)=true then some ((),(x1,(mK 1 (cN (mW x1 x2) x2.2.2.2.2.2.1 x2.2.2.2.2.1).2,()))) else _) (fun r=>(r.2.1,r.2.2.1)=oB x0 x1 x2)
 unfold oB
 refine cF (fun c1=>?_) fun c1=>?_
 . rw[Za] at c1;rw[if_pos c1];exact aH rfl
 rw[Za] at c1;rw[if_neg c1]
 refine cF (fun c2=>?_) fun c2=>?_
 . rw[Za] at c2
   rw[if_pos (show(cN (mW x1 x2) x2.2.2.2.2.2.1 x2.2.2.2.2.1).1=2 from c2)];exact aH rfl
 rw[Za] at c2;rw[if_neg (show ¬(cN (mW x1 x2) x2.2.2.2.2.2.1 x2.2.2.2.2.1).1=2 from c2)]
 refine cF (fun c3=>?_) fun c3=>?_
 . rw[Za] at c3
   rw[if_pos (show(cN (mW x1 x2) x2.2.2.2.2.2.1 x2.2.2.2.2.1).1=3 from c3)];exact aH rfl
 rw[Za] at c3;rw[if_neg (show ¬(cN (mW x1 x2) x2.2.2.2.2.2.1 x2.2.2.2.2.1).1=3 from c3)]
 refine cF (fun c4=>?_) fun c4=>?_
 . rw[Za] at c4
   rw[if_pos (show(cN (mW x1 x2) x2.2.2.2.2.2.1 x2.2.2.2.2.1).1=4 from c4)];exact aH rfl
 rw[Za] at c4;rw[if_neg (show ¬(cN (mW x1 x2) x2.2.2.2.2.2.1 x2.2.2.2.2.1).1=4 from c4)]
 refine aG (Zd hA0) (aG (Zd hAl) (aG (show jZ.pre (fP x1 x2) _ _ _ _=true from(aFt hr).1) (bR ?_)))
 show Wp (if(!(mY x0 x1 x2).2.2)=true then _ else _) _
 cases hb:(mY x0 x1 x2).2.2
 . exact aG rfl (aH rfl)
 refine eG (by decide) (aG (Zd hA0) (aG (Zd hAl) (aG (show jJ.pre (mW x1 x2) _ _ _ _=true from xP hms) (bR (aG ?_ (bR (aH rfl)))))))
 show(uY x1.2.1&&bQ (iP (mW x1 x2) x0.2.1 x2.2.2.2.2.2.1 x2.2.2.2.2.1 (mY x0 x1 x2).2.1).2.2.2.2.1)=true
 rw[hms,aCx];rfl
 have:=hmk.1.1.2.2.2.2.2.2.2.2.1
 show(jS _ _ _).2.2.2.2.1.length<=1000
 omega
end lG
abbrev lG:=oB
theorem aH3{s:aP}{rows rows':List bW}{ms:List aC}(h:aII s rows ms)(hr:∀j,(rows.getD j mQ).2.1<=(rows'.getD j mQ).2.1):aII s rows' ms:=
 ⟨fun m hm=>⟨(h.1 m hm).1,(h.1 m hm).2.1,fun x hx=>Int.lt_of_lt_of_le ((h.1 m hm).2.2 x hx) (hr _)⟩,h.2⟩
theorem aAP{s:aP}{k:bB}{i:Int}{r:bW}(h:kD s k)(hi:0<=i)(hl:i<s.1)(hr:fI r=true)(hn:(k.1.getD i.toNat mQ).2.1<=r.2.1):kD s (yT k i r):=by
 obtain⟨⟨h0,h1,h2,h3,h4,h5,h6⟩,k1,k2,k3,k4,k5⟩:=h
 refine⟨⟨h0,by show((k.1.modify _ _).length:Int)=s.1;rw[List.length_modify];exact h1,h2,h3,h4,h5,h6⟩,fun x hx=>?_,k2,k3,k4,aH3 k5 fun j=>?_⟩
 . rcases qF hx with rfl|hx
   . exact hr
   . exact k1 x hx
 . show _<=((k.1.modify i.toNat (fun _=>r)).getD j mQ).2.1
   by_cases e:i.toNat=j
   . subst e
     rw[lS (by omega)];exact hn
   . rw[sH e];exact Int.le_refl _
theorem aDu{x:bW}{key text:List UInt8}{who t:Int}(hx:fI x=true)(h:(mF x key text who t).2.2=true):(mF x key text who t).2.1=x.2.1/\fI (mF x key text who t).1=true/\(mF x key text who t).1.2.1=x.2.1+1/\0<=x.2.1/\x.2.1<100000:=by
 unfold mF at h ⊢
 split at h
 . rename_i hc
   rw[if_pos hc]
   rw[Zb] at hc
   have h1:=(lO.1 hx).1
   have h2:=(lO.1 hc.2).1
   have e:(newRow x key text who t).2.1=x.2.1+1:=lN (n:=x.2.1+1) (by omega) (by omega)
   rw[e] at h2
   exact⟨rfl,hc.2,e,by omega,by omega⟩
 . cases h
theorem aK3{m:aC}{w e q:Int}(h:makerP m w)(h1:(cN m e q).1=1):0<=(cN m e q).2/\(cN m e q).2<=100000:=by
 unfold cN at h1 ⊢
 repeat' split
 all_goals first
  |exact⟨by decide,by decide⟩
  |skip
 rename_i x hx
 exact h.2.2.1 x (List.mem_of_find?_eq_some hx)
theorem aHQ{s:aP}{k:bB}{c:fQ}(h:yB s k c)(hA:c.2.2.2.1<s.1):kD s (oB s k c).1/\eL (oB s k c).2=true:=by
 obtain⟨hk,hc,hw⟩:=h
 have hk':=hk
 obtain⟨⟨h0,h1,h2,h3,h4,h5,h6⟩,k1,k2,k3,k4,k5⟩:=hk'
 have hs:=fT h0
 have cf:=jF hc hw
 have hA0:=cf.2.2.2.1.1
 have hn:c.2.2.2.1.toNat<k.1.length:=by omega
 have hr:fI (fP k c)=true:=k1 _ (iO hn _)
 have hmk:=xX (row:=c.2.2.2.1) (who:=c.1) (w:=s.2.1) (fun m hm=>(k5.1 m hm).1) ⟨hA0,by omega⟩ ⟨hw,cf.1⟩ (by omega)
 have a0:∀{x:Int},0<=x->x<=9->eL (mK x 0)=true:=fun h1 h2=>oF h1 h2 (by omega) (by omega)
 unfold oB
 split
 . rename_i c1
   have:=aK3 hmk.1 c1
   exact⟨hk,oF (by omega) (by omega) (by unfold mW;omega) this.2⟩
 split
 . exact⟨hk,a0 (by omega) (by omega)⟩
 split
 . exact⟨hk,a0 (by omega) (by omega)⟩
 split
 . exact⟨hk,a0 (by omega) (by omega)⟩
 rename_i c1 c2 c3 c4
 have hask:(cN (mW k c) c.2.2.2.2.2.1 c.2.2.2.2.1).1=0:=by
  unfold cN at c1 c2 c3 c4 ⊢
  repeat' split
  all_goals first
   |rfl
   |(exfalso;simp_all)
 cases hb:(mY s k c).2.2
 . exact⟨hk,a0 (by omega) (by omega)⟩
 . have hf:=aDu (who:=c.1) (t:=k.2.2.2.1) (key:=c.2.2.2.2.2.2.1) (text:=c.2.2.2.2.2.2.2.1) hr hb
   have hf1:(mY s k c).2.1=(fP k c).2.1:=hf.1
   have hf2:fI (mY s k c).1=true:=hf.2.1
   have hf3:(mY s k c).1.2.1=(fP k c).2.1+1:=hf.2.2.1
   have hlt:∀x∈(mW k c).2.2.2.2.1,x.2.1<(fP k c).2.1:=by
    intro x hx
    rcases hmk.2.2.2 with h|h
    . have:=(k5.1 _ h).2.2 x hx
      rw[hmk.2.1] at this
      exact this
    . rw[show(mW k c).2.2.2.2.1=[] from h] at hx;cases hx
   have hp:=aFB (m:=mW k c) (w:=s.2.1) (epoch:=c.2.2.2.2.2.1) (seq:=c.2.2.2.2.1) (off:=(fP k c).2.1) hmk.1 (by omega) cf.2.2.2.2.2.1.2 cf.2.2.2.2.1 ⟨hf.2.2.2.1,by have:=hf.2.2.2.2;omega⟩ hlt hask
   simp only[cond_true]
   rw[hf1]
   refine⟨?_,oF (by omega) (by omega) (by have:=hf.2.2.2.1;unfold fP;unfold fP at this;omega) (by have:=hf.2.2.2.2;unfold fP;unfold fP at this;omega)⟩
   have hset:=aCn (m:=iP (mW k c) s.2.1 c.2.2.2.2.2.1 c.2.2.2.2.1 (fP k c).2.1) k.2.1 k5.2
   have hk2:=aAP (i:=c.2.2.2.1) (r:=(mY s k c).1) hk hA0 hA hf2 (by show(fP k c).2.1<=_;omega)
   obtain⟨g0,g1,g2,g3,g4,g5⟩:=hk2
   refine⟨g0,g1,g2,g3,g4,fun m hm=>?_,hset.1⟩
   rcases hset.2 m hm with rfl|hm
   . refine⟨hp.1,by rw[hp.2.1];show(jS _ _ _).1<s.1;rw[hmk.2.1];exact hA,fun x hx=>?_⟩
     have h1:=hp.2.2.2 x hx
     have e:(iP (mW k c) s.2.1 c.2.2.2.2.2.1 c.2.2.2.2.1 (fP k c).2.1).1=c.2.2.2.1:=by rw[hp.2.1];exact hmk.2.1
     rw[e]
     show x.2.1<((k.1.modify c.2.2.2.1.toNat (fun _=>(mY s k c).1)).getD c.2.2.2.1.toNat mQ).2.1
     rw[lS hn,hf3]
     omega
   . exact g5.1 m hm
def oM(k:bB)(c:fQ):bB×aF:=
 if c.2.2.2.2.1<=(mW k c).2.2.1 then(k,mK 4 (mW k c).2.2.1) else((k.1,(nB k.2.1 (c.2.2.2.1,(c.1,(c.2.2.2.2.1,((-1:Int),(([]:List bS),()))))),k.2.2)),mK 0 c.2.2.2.2.1)
namespace jO
def pre(k:bB)(_:fQ):Bool:=uY k.2.1
abbrev wf(x0:bB)(x1:fQ):Prop:=iM [(.val zk1 .o),(.val wN .f)] (x0,(x1,()))
noncomputable def aQ(x0:bB)(x1:fQ):Option (Unit×(bB×uW)):=
 if(fU.pre x0.2.1 x1.2.2.2.1 x1.1)=true then
 letB (jS x0.2.1 x1.2.2.2.1 x1.1) fun v1=>
 if(decide (x1.2.2.2.2.1<=v1.2.2.1))=true then
 some ((),(x0,(((4:Int),(v1.2.2.1,(([]:List UInt8),(([]:List UInt8),())))),())))
 else
 if(gB.pre x0.2.1 (x1.2.2.2.1,(x1.1,(x1.2.2.2.2.1,((-1:Int),(([]:List bS),()))))))=true then
 letB (nB x0.2.1 (x1.2.2.2.1,(x1.1,(x1.2.2.2.2.1,((-1:Int),(([]:List bS),())))))) fun v2=>
 some ((),((x0.1,(v2,x0.2.2)),(((0:Int),(x1.2.2.2.2.1,(([]:List UInt8),(([]:List UInt8),())))),())))
 else
 none
 else
 none
theorem eq(x0:bB)(x1:fQ)(_:wf x0 x1)(hp:pre x0 x1=true):aQ x0 x1=some ((),((oM x0 x1).1,((oM x0 x1).2,()))):=by
 have hp:uY x0.2.1=true:=hp
 refine wH ?_
 unfold aQ
 refine aG (show fU.pre _ _ _=true from hp) (bR ?_)
 show Wp (if decide (x1.2.2.2.2.1<=(mW x0 x1).2.2.1)=true then some ((),(x0,(mK 4 (mW x0 x1).2.2.1,()))) else _) (fun r=>(r.2.1,r.2.2.1)=oM x0 x1)
 unfold oM
 refine cF (fun c1=>?_) fun c1=>?_
 . rw[Za] at c1;rw[if_pos c1];exact aH rfl
 . rw[Za] at c1;rw[if_neg c1]
   exact aG (show(uY x0.2.1&&bQ ([]:List bS))=true by rw[hp];rfl) (bR (aH rfl))
end jO
abbrev jO:=oM
theorem aFz{s:aP}{k:bB}{c:fQ}(h:yB s k c)(hA:c.2.2.2.1<s.1):kD s (oM k c).1/\eL (oM k c).2=true:=by
 obtain⟨hk,hc,hw⟩:=h
 have hk':=hk
 obtain⟨⟨h0,h1,h2,h3,h4,h5,h6⟩,k1,k2,k3,k4,k5⟩:=hk'
 have hs:=fT h0
 have cf:=jF hc hw
 have hA0:=cf.2.2.2.1.1
 have hmk:=xX (row:=c.2.2.2.1) (who:=c.1) (w:=s.2.1) (fun m hm=>(k5.1 m hm).1) ⟨hA0,by omega⟩ ⟨hw,cf.1⟩ (by omega)
 have he:=hmk.1.1
 unfold oM
 split
 . obtain⟨_,_,_,_,e1,e2,_⟩:=he
   exact⟨hk,oF (by omega) (by omega) (by show -1<=(jS _ _ _).2.2.1;omega) e2⟩
 . refine⟨?_,oF (by omega) (by omega) (by have:=cf.2.2.2.2.1;show -1<=c.2.2.2.2.1;omega) cf.2.2.2.2.1.2⟩
   have hset:=aCn (m:=(c.2.2.2.1,(c.1,(c.2.2.2.2.1,((-1:Int),(([]:List bS),())))))) k.2.1 k5.2
   refine⟨⟨h0,h1,h2,h3,h4,h5,h6⟩,k1,k2,k3,k4,fun m hm=>?_,hset.1⟩
   rcases hset.2 m hm with rfl|hm
   . refine⟨⟨⟨hA0,by show c.2.2.2.1<=3;omega,hw,cf.1,cf.2.2.2.2.1.1,cf.2.2.2.2.1.2,Int.le_refl _,by show(-1:Int)<=100000;omega,by show(0:Int)<=s.2.1;omega,by show(0:Int)<=-1+1;omega,fun h=>absurd h (by show ¬(0:Int)<=-1;omega)⟩,fun j hj=>absurd hj (Nat.not_lt_zero _),fun x hx=>absurd hx List.not_mem_nil,List.Pairwise.nil⟩,hA,fun x hx=>absurd hx List.not_mem_nil⟩
   . exact k5.1 m hm
def sA(s:aP)(k:bB)(c:fQ):bB×aF:=
 if c.2.2.1=1 then oB s k c
 else if c.2.2.1=3 then oM k c
 else if c.2.2.1=2 then(if(jA (fP k c) c.2.2.2.2.1).2=1 then(k,mK 6 0) else if(jA (fP k c) c.2.2.2.2.1).2=2 then(k,mK 7 0)
  else(k,(0,((jA (fP k c) c.2.2.2.2.1).1.1,((jA (fP k c) c.2.2.2.2.1).1.2.1,((jA (fP k c) c.2.2.2.2.1).1.2.2.1,()))))))
 else if c.2.2.1=9 then(yT k c.2.2.2.1 (jN (fP k c) s.2.2.1 s.2.2.2.1),mK 0 (jN (fP k c) s.2.2.1 s.2.2.2.1).1)
 else(yT k c.2.2.2.1 (jR (fP k c) s.2.2.1),mK 0 (jR (fP k c) s.2.2.1).1)
namespace mC
noncomputable def pre(s:aP)(k:bB)(c:fQ):Bool:=B (yB s k c/\c.2.2.2.1<s.1)
abbrev wf(x0:aP)(x1:bB)(x2:fQ):Prop:=iM [(.val vY .f),(.val zk1 .o),(.val wN .f)] (x0,(x1,(x2,())))
noncomputable def aQ(x0:aP)(x1:bB)(x2:fQ):Option (Unit×(bB×uW)):=
 if(decide (x2.2.2.1=(1:Int)))=true then
 if(lG.pre x0 x1 x2)=true then
 letB (oB x0 x1 x2) fun v1=>
 some ((),(v1.1,(v1.2,())))
 else
 none
 else
 if(decide (x2.2.2.1=(3:Int)))=true then
 if(jO.pre x1 x2)=true then
 letB (oM x1 x2) fun v2=>
 some ((),(v2.1,(v2.2,())))
 else
 none
 else
 if(decide (x2.2.2.1=(2:Int)))=true then
 if(decide ((0:Int)<=x2.2.2.2.1))=true then
 if(decide (x2.2.2.2.1<((length x1.1:Nat):Int)))=true then
 if(jB.pre (List.getD x1.1 (Int.toNat x2.2.2.2.1) mQ) x2.2.2.2.2.1)=true then
 letB (jA (List.getD x1.1 (Int.toNat x2.2.2.2.1) mQ) x2.2.2.2.2.1) fun v3=>
 if(decide (v3.2=(1:Int)))=true then
 some ((),(x1,(((6:Int),mP),())))
 else
 if(decide (v3.2=(2:Int)))=true then
 some ((),(x1,(((7:Int),mP),())))
 else
 some ((),(x1,(((0:Int),(v3.1.1,(v3.1.2.1,(v3.1.2.2.1,())))),())))
 else
 none
 else
 none
 else
 none
 else
 if(decide (x2.2.2.1=(9:Int)))=true then
 if(decide ((0:Int)<=x2.2.2.2.1))=true then
 if(decide (x2.2.2.2.1<((length x1.1:Nat):Int)))=true then
 if(gY.pre (List.getD x1.1 (Int.toNat x2.2.2.2.1) mQ) x0.2.2.1 x0.2.2.2.1)=true then
 if(decide ((0:Int)<=x2.2.2.2.1))=true then
 if(decide (x2.2.2.2.1<((length x1.1:Nat):Int)))=true then
 if(decide ((0:Int)<=x2.2.2.2.1))=true then
 if(decide (x2.2.2.2.1<((length (List.modify x1.1 (Int.toNat x2.2.2.2.1) (fun z=>(jN (List.getD x1.1 (Int.toNat x2.2.2.2.1) mQ) x0.2.2.1 x0.2.2.2.1))):Nat):Int)))=true then
 some ((),(((List.modify x1.1 (Int.toNat x2.2.2.2.1) (fun z=>(jN (List.getD x1.1 (Int.toNat x2.2.2.2.1) mQ) x0.2.2.1 x0.2.2.2.1))),x1.2),(((0:Int),((List.getD (List.modify x1.1 (Int.toNat x2.2.2.2.1) (fun z=>(jN (List.getD x1.1 (Int.toNat x2.2.2.2.1) mQ) x0.2.2.1 x0.2.2.2.1))) (Int.toNat x2.2.2.2.1) mQ).1,(([]:List UInt8),(([]:List UInt8),())))),())))
 else
 none
 else
 none
 else
 none
 else
 none
 else
 none
 else
 none
 else
 none
 else
 if(decide ((0:Int)<=x2.2.2.2.1))=true then
 if(decide (x2.2.2.2.1<((length x1.1:Nat):Int)))=true then
 if(iX.pre (List.getD x1.1 (Int.toNat x2.2.2.2.1) mQ) x0.2.2.1)=true then
 if(decide ((0:Int)<=x2.2.2.2.1))=true then
 if(decide (x2.2.2.2.1<((length x1.1:Nat):Int)))=true then
 if(decide ((0:Int)<=x2.2.2.2.1))=true then
 if(decide (x2.2.2.2.1<((length (List.modify x1.1 (Int.toNat x2.2.2.2.1) (fun z=>(jR (List.getD x1.1 (Int.toNat x2.2.2.2.1) mQ) x0.2.2.1))):Nat):Int)))=true then
 some ((),(((List.modify x1.1 (Int.toNat x2.2.2.2.1) (fun z=>(jR (List.getD x1.1 (Int.toNat x2.2.2.2.1) mQ) x0.2.2.1))),x1.2),(((0:Int),((List.getD (List.modify x1.1 (Int.toNat x2.2.2.2.1) (fun z=>(jR (List.getD x1.1 (Int.toNat x2.2.2.2.1) mQ) x0.2.2.1))) (Int.toNat x2.2.2.2.1) mQ).1,(([]:List UInt8),(([]:List UInt8),())))),())))
 else
 none
 else
 none
 else
 none
 else
 none
 else
 none
 else
 none
 else
 none
theorem eq(x0:aP)(x1:bB)(x2:fQ)(_:wf x0 x1 x2)(hp:pre x0 x1 x2=true):aQ x0 x1 x2=some ((),((sA x0 x1 x2).1,((sA x0 x1 x2).2,()))):=by
 obtain⟨⟨hk,hc,hw⟩,hA⟩:=cP.1 hp
 obtain⟨⟨h0,h1,h2,h3,h4,h5,h6⟩,k1,k2,k3,k4,k5⟩:=hk
 have hs:=fT h0
 have cf:=jF hc hw
 have hA0:=cf.2.2.2.1.1
 have hAl:x2.2.2.2.1<(x1.1.length:Int):=by omega
 have hn:x2.2.2.2.1.toNat<x1.1.length:=by omega
 have hr:fI (fP x1 x2)=true:=k1 _ (iO hn _)
 have hrs:=(aFt hr).2
 have ml:∀g:bW,decide (x2.2.2.2.1<(((x1.1.modify x2.2.2.2.1.toNat (fun _=>g)).length:Nat):Int))=true:=fun g=>by rw[List.length_modify];exact Zd hAl
 refine wH ?_
 unfold aQ sA
 refine cF (fun c1=>?_) fun c1=>?_
 . rw[Za] at c1;rw[if_pos c1]
   exact aG (show lG.pre x0 x1 x2=true from hp) (bR (aH rfl))
 rw[Za] at c1;rw[if_neg c1]
 refine cF (fun c2=>?_) fun c2=>?_
 . rw[Za] at c2;rw[if_pos c2]
   exact aG (show jO.pre x1 x2=true from aER (by omega) k5) (bR (aH rfl))
 rw[Za] at c2;rw[if_neg c2]
 refine cF (fun c3=>?_) fun c3=>?_
 . rw[Za] at c3;rw[if_pos c3]
   refine aG (Zd hA0) (aG (Zd hAl) (aG (show jB.pre (fP x1 x2) _=true from hrs) (bR (cF (fun d1=>?_) fun d1=>?_))))
   . rw[Za] at d1;rw[if_pos (show(jA (fP x1 x2) x2.2.2.2.2.1).2=1 from d1)];exact aH rfl
   rw[Za] at d1;rw[if_neg (show ¬(jA (fP x1 x2) x2.2.2.2.2.1).2=1 from d1)]
   refine cF (fun d2=>?_) fun d2=>?_
   . rw[Za] at d2;rw[if_pos (show(jA (fP x1 x2) x2.2.2.2.2.1).2=2 from d2)];exact aH rfl
   rw[Za] at d2;rw[if_neg (show ¬(jA (fP x1 x2) x2.2.2.2.2.1).2=2 from d2)]
   exact aH rfl
 rw[Za] at c3;rw[if_neg c3]
 refine cF (fun c4=>?_) fun c4=>?_
 . rw[Za] at c4;rw[if_pos c4]
   refine aG (Zd hA0) (aG (Zd hAl) (aG (show gY.pre (fP x1 x2) _ _=true from hrs) (aG (Zd hA0) (aG (Zd hAl) (aG (Zd hA0) (aG (ml _) (aH ?_)))))))
   show(yT x1 x2.2.2.2.1 (jN (fP x1 x2) x0.2.2.1 x0.2.2.2.1),mK 0 ((x1.1.modify x2.2.2.2.1.toNat (fun _=>jN (fP x1 x2) x0.2.2.1 x0.2.2.2.1)).getD x2.2.2.2.1.toNat mQ).1)=_
   rw[lS hn]
 . rw[Za] at c4;rw[if_neg c4]
   refine aG (Zd hA0) (aG (Zd hAl) (aG (show iX.pre (fP x1 x2) _=true from hrs) (aG (Zd hA0) (aG (Zd hAl) (aG (Zd hA0) (aG (ml _) (aH ?_)))))))
   show(yT x1 x2.2.2.2.1 (jR (fP x1 x2) x0.2.2.1),mK 0 ((x1.1.modify x2.2.2.2.1.toNat (fun _=>jR (fP x1 x2) x0.2.2.1)).getD x2.2.2.2.1.toNat mQ).1)=_
   rw[lS hn]
end mC
abbrev mC:=sA
theorem aEA{x:bW}{off:Int}(h1:¬(jA x off).2=1)(h2:¬(jA x off).2=2):(jA x off).1∈x.2.2.1:=by
 unfold jA at h1 h2 ⊢
 split at h1
 . exact absurd rfl h1
 . rename_i hc
   rw[if_neg hc] at h2 ⊢
   cases hf:x.2.2.1.find? (fun it=>decide (off<=it.1)) with
   |none=>rw[hf] at h2;exact absurd rfl h2
   |some it=>exact List.mem_of_find?_eq_some hf
theorem aI5{s:aP}{k:bB}{c:fQ}(h:yB s k c)(hA:c.2.2.2.1<s.1):kD s (sA s k c).1/\eL (sA s k c).2=true:=by
 have h':=h
 obtain⟨hk,hc,hw⟩:=h'
 have hk':=hk
 obtain⟨⟨h0,h1,h2,h3,h4,h5,h6⟩,k1,k2,k3,k4,k5⟩:=hk'
 have hs:=fT h0
 have cf:=jF hc hw
 have hA0:=cf.2.2.2.1.1
 have hr:fI (fP k c)=true:=k1 _ (iO (by omega) _)
 have hr':=lO.1 hr
 have st:∀r:bW,fI r=true->eL (mK 0 r.1)=true:=fun r hr=>by
  have:=(lO.1 hr).1
  exact oF (by omega) (by omega) (by omega) (by omega)
 unfold sA
 split
 . exact aHQ h hA
 split
 . exact aFz h hA
 split
 . split
   . exact⟨hk,oF (by omega) (by omega) (by omega) (by omega)⟩
   split
   . exact⟨hk,oF (by omega) (by omega) (by omega) (by omega)⟩
   . rename_i d1 d2
     have hit:=hr'.2.1 _ (aEA d1 d2)
     have hi:=hit.2.2
     simp only[aC6,Zb] at hi
     refine⟨hk,?_⟩
     simp only[eL,aA,Zb,Za]
     exact⟨⟨by omega,by omega⟩,⟨by have:=hr'.1;omega,by have:=hr'.1;omega⟩,hi.1,hi.2.1⟩
 split
 . have ht:=aGd (keep:=s.2.2.2.1) hr hs.2.2.2.2.2.1
   exact⟨aAP hk hA0 hA ht.1 (by show(fP k c).2.1<=_;rw[ht.2];exact Int.le_refl _),st _ ht.1⟩
 . have ht:=aFY (len:=s.2.2.1) hr
   exact⟨aAP hk hA0 hA ht.1 (by show(fP k c).2.1<=_;rw[ht.2];exact Int.le_refl _),st _ ht.1⟩
def aFE(a b:Int):Int:=if a<b then a else b
namespace oU
abbrev wf(x0:Int)(x1:Int):Prop:=iM [(.val (.int .i64) .f),(.val (.int .i64) .f)] (x0,(x1,()))
noncomputable def aQ(x0:Int)(x1:Int):Option aAC:=
 if(decide (x0<x1))=true then
 some ((),(x0,()))
 else
 some ((),(x1,()))
theorem eq(x0 x1:Int)(_:wf x0 x1):aQ x0 x1=some ((),(aFE x0 x1,())):=by
 unfold aQ aFE
 by_cases h:x0<x1
 . rw[if_pos (Zd h),if_pos h]
 . rw[if_neg (by rw[Za];exact h),if_neg h]
end oU
abbrev oU:=aFE
def yG(k:bB)(c:fQ):Int:=aFE 100000 (k.2.2.2.1+c.2.2.2.1)
def mH(s:aP)(k:bB)(c:fQ):bB×aF:=
 if c.2.2.1=8 then((k.1,(k.2.1,(k.2.2.1.map (fun g=>lQ g (yG k c)),(yG k c,k.2.2.2.2)))),mK 0 (yG k c))
 else if aA c.2.2.1 4 7=true then(if 2<=c.2.2.2.1 then(k,mK 9 0) else nL s k c)
 else if s.1<=c.2.2.2.1 then(k,mK 5 0) else sA s k c
theorem aCr{s:aP}{k:bB}{c:fQ}(h:yB s k c):0<=yG k c/\yG k c<=100000:=by
 obtain⟨⟨⟨h0,h1,h2,h3,h4,h5,h6⟩,_⟩,hc,hw⟩:=h
 have:=(jF hc hw).2.2.2.1
 unfold yG aFE
 split<;>omega
theorem aEK{g:aE}{rows t:Int}(h:iI g rows=true)(hr:rows<=4)(h0:0<=t)(h1:t<=100000):pN g t=true:=by
 have hg:=gQ.1 h
 exact rU.2 ⟨(xO h hr).1,hg.1.1,h0,h1,hg.2.2.2.1⟩
namespace kF
abbrev S4:Type:=(Int×aJt)
abbrev O4:Type:=aJt
def pre4:S4->Bool:=fun(x1,x2,_,_,_,x6,_)=>decide (0<=x1)&&(decide (x1<=(x6.length:Int))&&(decide (x6.length<=1000)&&(x6.drop x1.toNat).all fun g=>pN g x2))
def kU:S4->Nat:=fun(x1,_,_,_,_,x6,_)=>x6.length-x1.toNat
def fn4:S4->O4:=fun(x1,x2,x3,x4,x5,x6,x7)=>(x2,x3,x4,x5,x6.take x1.toNat++(x6.drop x1.toNat).map (fun g=>lQ g x2),x7)
noncomputable def eO(x1:Int)(x2:Int)(x3:Unit)(x4:(List bW))(x5:(List aC))(x6:(List aE))(x7:(List Int))(x8:(List aF))(x9:Int)(x10:Unit)(x11:(List bW))(x12:(List aC))(x13:(List aE))(x14:(List Int))(x15:(List aF))(x16:aF):Option ((Int×aJt)⊕aJt):=
 if(decide (x1<((length x6:Nat):Int)))=true then
 if(decide ((0:Int)<=x1))=true then
 if(decide (x1<((length x6:Nat):Int)))=true then
 if(gK.pre (List.getD x6 (Int.toNat x1) qX) x2)=true then
 if(decide ((0:Int)<=x1))=true then
 if(decide (x1<((length x6:Nat):Int)))=true then
 some (.inl ((wrap .i64 (x1+(1:Int))),(x2,(x3,(x4,(x5,((List.modify x6 (Int.toNat x1) (fun z=>(lQ (List.getD x6 (Int.toNat x1) qX) x2))),(x7,(x8,(x9,(x10,(x11,(x12,(x13,(x14,(x15,(x16,())))))))))))))))))
 else
 none
 else
 none
 else
 none
 else
 none
 else
 none
 else
 some (.inr (x2,(x3,(x4,(x5,(x6,(x7,(x8,(x9,(x10,(x11,(x12,(x13,(x14,(x15,(x16,()))))))))))))))))
abbrev wf(x0:aP)(x1:bB)(x2:fQ):Prop:=iM [(.val vY .f),(.val zk1 .o),(.val wN .f)] (x0,(x1,(x2,())))
noncomputable def aQ(x0:aP)(x1:bB)(x2:fQ):Option (Unit×(bB×uW)):=
 if(decide (x2.2.2.1=(8:Int)))=true then
 letB (aFE (100000:Int) (wrap .i64 (x1.2.2.2.1+x2.2.2.2.1))) fun v1=>
 if(kF.pre4 ((0:Int),(v1,(x1.2.2.2.2.2.2,(x1.1,(x1.2.1,(x1.2.2.1,(x1.2.2.2.2.1,(x1.2.2.2.2.2.1,((0:Int),((),(([]:List bW),(([]:List aC),(([]:List aE),(([]:List Int),(([]:List aF),(((0:Int),mP),())))))))))))))))))=true then
 letB (kF.fn4 ((0:Int),(v1,(x1.2.2.2.2.2.2,(x1.1,(x1.2.1,(x1.2.2.1,(x1.2.2.2.2.1,(x1.2.2.2.2.2.1,((0:Int),((),(([]:List bW),(([]:List aC),(([]:List aE),(([]:List Int),(([]:List aF),(((0:Int),mP),()))))))))))))))))) fun v2=>
 some ((),((v2.2.2.1,(v2.2.2.2.1,(v2.2.2.2.2.1,(v2.1,(v2.2.2.2.2.2.1,(v2.2.2.2.2.2.2.1,v2.2.1)))))),(((0:Int),(v2.1,(([]:List UInt8),(([]:List UInt8),())))),())))
 else
 none
 else
 letB (aA x2.2.2.1 (4:Int) (7:Int)) fun v3=>
 if v3=true then
 if(decide ((2:Int)<=x2.2.2.2.1))=true then
 some ((),(x1,(((9:Int),mP),())))
 else
 if(kJ.pre x0 x1 x2)=true then
 letB (nL x0 x1 x2) fun v4=>
 some ((),(v4.1,(v4.2,())))
 else
 none
 else
 if(decide (x0.1<=x2.2.2.2.1))=true then
 some ((),(x1,(((5:Int),mP),())))
 else
 if(mC.pre x0 x1 x2)=true then
 letB (sA x0 x1 x2) fun v5=>
 some ((),(v5.1,(v5.2,())))
 else
 none
theorem vZ(x1 x2:Int)(x3:Unit)(x4:List bW)(x5:List aC)(x6:List aE)(x7:List Int)(x8:List aF)(x9:Int)(x10:Unit)(x11:List bW)(x12:List aC)(x13:List aE)(x14:List Int)(x15:List aF)(x16:aF)(hp:pre4 (x1,(x2,(x3,(x4,(x5,(x6,(x7,(x8,(x9,(x10,(x11,(x12,(x13,(x14,(x15,(x16,()))))))))))))))))=true):
 aX pre4 kU fn4 (x1,(x2,(x3,(x4,(x5,(x6,(x7,(x8,(x9,(x10,(x11,(x12,(x13,(x14,(x15,(x16,())))))))))))))))) (eO x1 x2 x3 x4 x5 x6 x7 x8 x9 x10 x11 x12 x13 x14 x15 x16):=by
 simp only[pre4,Zb,Za,Zu] at hp
 obtain⟨h1,h2,h3,h4⟩:=hp
 unfold eO
 by_cases hlt:x1<(x6.length:Int)
 . have hn:x1.toNat<x6.length:=by omega
   have e1:=Zn hn
   have ht:pN x6[x1.toNat] x2=true:=h4 _ (by rw[e1];exact List.mem_cons_self)
   have es:(x1+1).toNat=x1.toNat+1:=by omega
   rw[dR hn,lN (n:=x1+1) (by omega) (by omega),nX]
   refine bU (Zd hlt) (bU (Zd h1) (bU (Zd hlt) (bU (show gK.pre _ _=true from ht) (bU (Zd h1) (bU (Zd hlt) ⟨?_,?_,?_⟩)))))
   . simp only[pre4,Zb,Za,Zu,List.length_set,es]
     refine⟨by omega,by omega,h3,fun g hg=>h4 g ?_⟩
     rw[List.drop_set_of_lt (by omega)] at hg
     rw[e1];exact Zo _ hg
   . simp only[kU,List.length_set];omega
   . simp only[fn4,es]
     rw[List.drop_set_of_lt (by omega),e1,List.take_add_one,List.getElem?_set_self hn,List.take_set_of_le (Nat.le_refl _)]
     simp only[Option.toList,List.map_cons,Zk,List.cons_append,List.nil_append]
 . refine dJ (by rw[Za];exact hlt) ?_
   simp only[aX,fn4]
   rw[Zt (by omega),List.take_of_length_le (by omega)]
   simp
noncomputable def pre(s:aP)(k:bB)(c:fQ):Bool:=B (yB s k c)
theorem eq(x0:aP)(x1:bB)(x2:fQ)(_:wf x0 x1 x2)(hp:pre x0 x1 x2=true):aQ x0 x1 x2=some ((),((mH x0 x1 x2).1,((mH x0 x1 x2).2,()))):=by
 have hcp:=cP.1 hp
 obtain⟨hk,hc,hw⟩:=hcp
 obtain⟨⟨h0,h1,h2,h3,h4,h5,h6⟩,k1,k2,k3,k4,k5⟩:=hk
 have hs:=fT h0
 have cf:=jF hc hw
 have tk:=aCr (cP.1 hp)
 refine wH ?_
 unfold aQ mH
 rw[lN (n:=x1.2.2.2.1+x2.2.2.2.1) (by omega) (by omega)]
 refine cF (fun c1=>?_) fun c1=>?_
 . rw[Za] at c1;rw[if_pos c1]
   refine bR (aG ?_ (bR (aH rfl)))
   show(decide ((0:Int)<=0)&&(decide ((0:Int)<=(x1.2.2.1.length:Int))&&(decide (x1.2.2.1.length<=1000)&&(x1.2.2.1.drop (Int.toNat 0)).all fun g=>pN g (yG x1 x2))))=true
   simp only[Zb,Za,Zu]
   exact⟨by omega,by omega,by omega,fun g hg=>aEK (k2 g hg) hs.2.1 tk.1 tk.2⟩
 rw[Za] at c1;rw[if_neg c1]
 refine bR (cF (fun c2=>?_) fun c2=>?_)
 . rw[if_pos c2]
   refine cF (fun c3=>?_) fun c3=>?_
   . rw[Za] at c3;rw[if_pos c3];exact aH rfl
   . rw[Za] at c3;rw[if_neg c3]
     exact aG (cP.2 ⟨cP.1 hp,by omega⟩) (bR (aH rfl))
 . rw[if_neg c2]
   refine cF (fun c3=>?_) fun c3=>?_
   . rw[Za] at c3;rw[if_pos c3];exact aH rfl
   . rw[Za] at c3;rw[if_neg c3]
     exact aG (cP.2 ⟨cP.1 hp,by omega⟩) (bR (aH rfl))
end kF
abbrev kF:=mH
theorem aC8{s:aP}{k:bB}{c:fQ}(h:yB s k c):kD s (mH s k c).1/\eL (mH s k c).2=true:=by
 have h':=h
 obtain⟨hk,hc,hw⟩:=h'
 have hk':=hk
 obtain⟨⟨h0,h1,h2,h3,h4,h5,h6⟩,k1,k2,k3,k4,k5⟩:=hk'
 have tk:=aCr h
 unfold mH
 split
 . refine⟨⟨⟨h0,h1,by show(k.2.2.1.map _).length=2;rw[List.length_map];exact h2,h3,h4,tk.1,tk.2⟩,k1,fun g hg=>?_,k3,k4,k5⟩,oF (by omega) (by omega) (by omega) tk.2⟩
   obtain⟨g0,hg0,rfl⟩:=List.mem_map.1 hg
   exact aDK (k2 g0 hg0)
 split
 . split
   . exact⟨hk,oF (by omega) (by omega) (by omega) (by omega)⟩
   . exact aFA h (by omega)
 split
 . exact⟨hk,oF (by omega) (by omega) (by omega) (by omega)⟩
 . exact aI5 h (by omega)
def aIt:aF:=((0:Int),mP)
def sZ(k:bB)(c:fQ)(a:aF):bB:=(k.1,(k.2.1,(k.2.2.1,(k.2.2.2.1,(k.2.2.2.2.1.modify c.1.toNat (fun _=>c.2.1),(k.2.2.2.2.2.1.modify c.1.toNat (fun _=>a),k.2.2.2.2.2.2))))))
def qD(s:aP)(k:bB)(c:fQ):bB×aF:=
 if c.1<0 then(k,aIt)
 else if c.2.1<=k.2.2.2.2.1.getD c.1.toNat 0 then(k,k.2.2.2.2.2.1.getD c.1.toNat ((0:Int),mP))
 else(sZ (mH s k c).1 c (mH s k c).2,(mH s k c).2)
theorem aE5:eL aIt=true:=by decide
theorem aHP{s:aP}{k:bB}{c:fQ}{a:aF}(h:kD s k)(hc:kZ c=true)(hw:0<=c.1)(ha:eL a=true):kD s (sZ k c a):=by
 obtain⟨⟨h0,h1,h2,h3,h4,h5,h6⟩,k1,k2,k3,k4,k5⟩:=h
 have cf:=jF hc hw
 refine⟨⟨h0,h1,h2,by show(k.2.2.2.2.1.modify _ _).length=4;rw[List.length_modify];exact h3,by show(k.2.2.2.2.2.1.modify _ _).length=4;rw[List.length_modify];exact h4,h5,h6⟩,k1,k2,fun d hd=>?_,fun x hx=>?_,k5⟩
 . rcases qF hd with rfl|hd
   . have:=cf.2.1;omega
   . exact k3 d hd
 . rcases qF hx with rfl|hx
   . exact ha
   . exact k4 x hx
theorem aFh{c:fQ}(h:kZ c=true):c.1=-1\/0<=c.1:=by
 unfold kZ at h
 split at h
 . exact .inl ‹_›
 . simp only[Zb] at h
   exact .inr (pC h.1).1
theorem aIy{s:aP}{k:bB}{c:fQ}(hk:kD s k)(hc:kZ c=true):kD s (qD s k c).1/\eL (qD s k c).2=true:=by
 unfold qD
 split
 . exact⟨hk,aE5⟩
 have hw:0<=c.1:=by rcases aFh hc with h|h<;>omega
 have cf:=jF hc hw
 split
 . have hk':=hk
   obtain⟨⟨h0,h1,h2,h3,h4,h5,h6⟩,k1,k2,k3,k4,k5⟩:=hk'
   exact⟨hk,k4 _ (iO (by omega) _)⟩
 . have:=aC8 ⟨hk,hc,hw⟩
   exact⟨aHP this.1 hc hw this.2,this.2⟩
theorem aHB{s:aP}{k:bB}(h:kD s k):eB.pre k=true:=aBK h
namespace mM
noncomputable def pre(s:aP)(k:bB)(c:fQ):Bool:=B (kD s k/\kZ c=true)
abbrev wf(x0:aP)(x1:bB)(x2:fQ):Prop:=iM [(.val vY .f),(.val zk1 .f),(.val wN .f)] (x0,(x1,(x2,())))
noncomputable def aQ(x0:aP)(x1:bB)(x2:fQ):Option (Unit×(bB×uW)):=
 if(decide (x2.1<(0:Int)))=true then
 if(eB.pre x1)=true then
 letB (eB x1) fun v1=>
 some ((),(v1,(((0:Int),mP),())))
 else
 none
 else
 if(decide ((0:Int)<=x2.1))=true then
 if(decide (x2.1<((length x1.2.2.2.2.1:Nat):Int)))=true then
 if(decide (x2.2.1<=(List.getD x1.2.2.2.2.1 (Int.toNat x2.1) (0:Int))))=true then
 if(eB.pre x1)=true then
 if(decide ((0:Int)<=x2.1))=true then
 if(decide (x2.1<((length x1.2.2.2.2.2.1:Nat):Int)))=true then
 letB (eB x1) fun v2=>
 some ((),(v2,((List.getD x1.2.2.2.2.2.1 (Int.toNat x2.1) ((0:Int),mP)),())))
 else
 none
 else
 none
 else
 none
 else
 if(eB.pre x1)=true then
 letB (eB x1) fun v3=>
 if(kF.pre x0 v3 x2)=true then
 if(decide ((0:Int)<=x2.1))=true then
 letB (mH x0 v3 x2) fun v4=>
 if(decide (x2.1<((length v4.1.2.2.2.2.1:Nat):Int)))=true then
 if(decide ((0:Int)<=x2.1))=true then
 if(decide (x2.1<((length v4.1.2.2.2.2.2.1:Nat):Int)))=true then
 some ((),((v4.1.1,(v4.1.2.1,(v4.1.2.2.1,(v4.1.2.2.2.1,((List.modify v4.1.2.2.2.2.1 (Int.toNat x2.1) (fun z=>x2.2.1)),((List.modify v4.1.2.2.2.2.2.1 (Int.toNat x2.1) (fun z=>v4.2)),v4.1.2.2.2.2.2.2)))))),(v4.2,())))
 else
 none
 else
 none
 else
 none
 else
 none
 else
 none
 else
 none
 else
 none
 else
 none
theorem eq(x0:aP)(x1:bB)(x2:fQ)(_:wf x0 x1 x2)(hp:pre x0 x1 x2=true):aQ x0 x1 x2=some ((),((qD x0 x1 x2).1,((qD x0 x1 x2).2,()))):=by
 obtain⟨hk,hc⟩:=cP.1 hp
 have cp:=aHB hk
 refine wH ?_
 unfold aQ qD
 rw[show eB x1=x1 from rfl]
 refine cF (fun c1=>?_) fun c1=>?_
 . rw[Za] at c1;rw[if_pos c1]
   exact aG cp (bR (aH rfl))
 rw[Za] at c1;rw[if_neg c1]
 have hw:0<=x2.1:=by omega
 have cf:=jF hc hw
 have hd:x2.1<(x1.2.2.2.2.1.length:Int):=by have:=hk.1.2.2.2.1;omega
 have hl:x2.1<(x1.2.2.2.2.2.1.length:Int):=by have:=hk.1.2.2.2.2.1;omega
 have hcp:yB x0 x1 x2:=⟨hk,hc,hw⟩
 have hn:=(aC8 hcp).1.1
 refine aG (Zd hw) (aG (Zd hd) (cF (fun c2=>?_) fun c2=>?_))
 . rw[Za] at c2;rw[if_pos c2]
   exact aG cp (aG (Zd hw) (aG (Zd hl) (bR (aH rfl))))
 . rw[Za] at c2;rw[if_neg c2]
   refine aG cp (bR (aG (show kF.pre x0 x1 x2=true from cP.2 hcp) (aG (Zd hw) (bR (aG (Zd (show x2.1<((mH x0 x1 x2).1.2.2.2.2.1.length:Int) by have:=hn.2.2.2.1;omega)) (aG (Zd hw) (aG (Zd (show x2.1<((mH x0 x1 x2).1.2.2.2.2.2.1.length:Int) by have:=hn.2.2.2.2.1;omega)) (aH rfl))))))))
end mM
abbrev mM:=qD
theorem not_true{b:Bool}(h:¬b=true):b=false:=by
 cases b
 . rfl
 . exact absurd rfl h
theorem xT{s:aP}(h:dK s=true):kD s (gA s):=by
 have hs:=fT h
 rw[show gA s=aGP s.1 from if_pos h]
 refine⟨⟨h,by show((List.replicate _ _).length:Int)=s.1;rw[List.length_replicate];omega,by rfl,by rfl,by rfl,Int.le_refl _,by show(0:Int)<=100000;omega⟩,fun r hr=>?_,fun g hg=>?_,fun d hd=>?_,fun a ha=>?_,fun m hm=>absurd hm List.not_mem_nil,List.Pairwise.nil⟩
 . rw[List.eq_of_mem_replicate hr];decide
 . rw[List.eq_of_mem_replicate hg]
   unfold oK
   rw[if_pos (by simp only[aA,Zb,Za];omega)]
   refine gQ.2 ⟨⟨rfl,by show((List.replicate _ _).length:Int)=s.1;rw[List.length_replicate];omega,by omega,by omega⟩,fun m hm=>absurd hm List.not_mem_nil,List.Pairwise.nil,fun b hb=>absurd hb List.not_mem_nil,fun o ho=>?_⟩
   rw[List.eq_of_mem_replicate ho];omega
 . rw[List.eq_of_mem_replicate hd];omega
 . rw[List.eq_of_mem_replicate ha];decide
def kI(s:aP)(k:bB)(c:fQ):bB×aF:=cond (dK s&&kZ c) (qD s k c) (k,aIt)
def pR(s:aP):bB->List aF->List fQ->bB×List aF
 |k,out,[]=>(k,out)
 |k,out,c::r=>pR s (kI s k c).1 (out++[(kI s k c).2]) r
def dV(s:aP)(l:List fQ):bB×List aF:=pR s (gA s) [] l
theorem wE{s:aP}{k:bB}{c:fQ}(h:dK s=true->kD s k):(dK s=true->kD s (kI s k c).1)/\eL (kI s k c).2=true:=by
 unfold kI
 cases h1:dK s
 . exact⟨fun h=>(by cases h),aE5⟩
 cases h2:kZ c
 . exact⟨fun _=>h h1,aE5⟩
 . have:=aIy (h h1) h2
   exact⟨fun _=>this.1,this.2⟩
theorem aGE{s:aP}:(l:List fQ)->(k:bB)->(out:List aF)->(dK s=true->kD s k)->out.all eL=true->(dK s=true->kD s (pR s k out l).1)/\(pR s k out l).2.all eL=true/\(pR s k out l).2.length=out.length+l.length
 |[],k,out,h,ho=>⟨h,ho,rfl⟩
 |c::r,k,out,h,ho=>by
  have hc:=wE (c:=c) h
  have:=aGE r (kI s k c).1 (out++[(kI s k c).2]) hc.1 (by rw[List.all_append,ho];simp[hc.2])
  simp only[pR]
  refine⟨this.1,this.2.1,?_⟩
  rw[this.2.2,Zf,Zg,Zg,Zh];omega
theorem qP{s:aP}{l:List fQ}:(dK s=true->kD s (dV s l).1)/\(dV s l).2.all eL=true/\(dV s l).2.length=l.length:=by
 have:=aGE (s:=s) l (gA s) [] xT rfl
 refine⟨this.1,this.2.1,?_⟩
 rw[show dV s l=pR s (gA s) [] l from rfl,this.2.2,Zh];omega
namespace eN
abbrev S4:Type:=((List fQ)×(Int×(aP×aIY)))
abbrev O4:Type:=aIY
noncomputable def pre4:S4->Bool:=fun(x1,x2,x3,_,_,_,_,_,_,_,x11,x12,x13,x14,x15,x16,x17,x18,_)=>bQ x1&&(decide (0<=x2)&&(decide (x2<=(x1.length:Int))&&(decide ((x11.length:Int)=x2)&&B (dK x3=true->kD x3 (x14,(x15,(x16,(x12,(x17,(x18,x13))))))))))
def kU:S4->Nat:=fun(x1,x2,_)=>x1.length-x2.toNat
def Q4(s:S4)(o:O4):Prop:=match s,o with
 |(x1,x2,x3,_,_,_,_,_,_,_,x11,x12,x13,x14,x15,x16,x17,x18,_),(_,_,_,_,_,_,_,o11,o12,o13,o14,o15,o16,o17,o18,_)=>
  ((o14,(o15,(o16,(o12,(o17,(o18,o13)))))),o11)=pR x3 (x14,(x15,(x16,(x12,(x17,(x18,x13)))))) x11 (x1.drop x2.toNat)
noncomputable def eO(x1:(List fQ))(x2:Int)(x3:aP)(x4:Int)(x5:Unit)(x6:(List bW))(x7:(List aC))(x8:(List aE))(x9:(List Int))(x10:(List aF))(x11:(List aF))(x12:Int)(x13:Unit)(x14:(List bW))(x15:(List aC))(x16:(List aE))(x17:(List Int))(x18:(List aF)):Option (((List fQ)×(Int×(aP×aIY)))⊕aIY):=
 if(decide (x2<((length x1:Nat):Int)))=true then
 letB (dK x3) fun v1=>
 if v1=true then
 if(decide ((0:Int)<=x2))=true then
 if(decide (x2<((length x1:Nat):Int)))=true then
 letB (kZ (List.getD x1 (Int.toNat x2) aDJ)) fun v2=>
 if v2=true then
 if(decide ((0:Int)<=x2))=true then
 if(decide (x2<((length x1:Nat):Int)))=true then
 if(mM.pre x3 (x14,(x15,(x16,(x12,(x17,(x18,x13)))))) (List.getD x1 (Int.toNat x2) aDJ))=true then
 letB (qD x3 (x14,(x15,(x16,(x12,(x17,(x18,x13)))))) (List.getD x1 (Int.toNat x2) aDJ)) fun v3=>
 if(decide (length x11+length (v3.2::([]:List aF))<=gO))=true then
 some (.inl (x1,((wrap .i64 (x2+(1:Int))),(x3,(x4,(x5,(x6,(x7,(x8,(x9,(x10,((List.append x11 (v3.2::([]:List aF))),(v3.1.2.2.2.1,(v3.1.2.2.2.2.2.2,(v3.1.1,(v3.1.2.1,(v3.1.2.2.1,v3.1.2.2.2.2)))))))))))))))))
 else
 none
 else
 none
 else
 none
 else
 none
 else
 if(decide (length x11+length (((0:Int),mP)::([]:List aF))<=gO))=true then
 some (.inl (x1,((wrap .i64 (x2+(1:Int))),(x3,(x4,(x5,(x6,(x7,(x8,(x9,(x10,((List.append x11 (((0:Int),mP)::([]:List aF))),(x12,(x13,(x14,(x15,(x16,(x17,(x18,())))))))))))))))))))
 else
 none
 else
 none
 else
 none
 else
 if(decide (length x11+length (((0:Int),mP)::([]:List aF))<=gO))=true then
 some (.inl (x1,((wrap .i64 (x2+(1:Int))),(x3,(x4,(x5,(x6,(x7,(x8,(x9,(x10,((List.append x11 (((0:Int),mP)::([]:List aF))),(x12,(x13,(x14,(x15,(x16,(x17,(x18,())))))))))))))))))))
 else
 none
 else
 some (.inr (x4,(x5,(x6,(x7,(x8,(x9,(x10,(x11,(x12,(x13,(x14,(x15,(x16,(x17,(x18,()))))))))))))))))
theorem wp4:∀s,pre4 s=true->Wp ((fun(x:S4)=>eO x.1 x.2.1 x.2.2.1 x.2.2.2.1 x.2.2.2.2.1 x.2.2.2.2.2.1 x.2.2.2.2.2.2.1 x.2.2.2.2.2.2.2.1 x.2.2.2.2.2.2.2.2.1 x.2.2.2.2.2.2.2.2.2.1 x.2.2.2.2.2.2.2.2.2.2.1 x.2.2.2.2.2.2.2.2.2.2.2.1 x.2.2.2.2.2.2.2.2.2.2.2.2.1 x.2.2.2.2.2.2.2.2.2.2.2.2.2.1 x.2.2.2.2.2.2.2.2.2.2.2.2.2.2.1 x.2.2.2.2.2.2.2.2.2.2.2.2.2.2.2.1 x.2.2.2.2.2.2.2.2.2.2.2.2.2.2.2.2.1 x.2.2.2.2.2.2.2.2.2.2.2.2.2.2.2.2.2.1) s) (hJ pre4 kU Q4 s):=by
 rintro⟨x1,x2,x3,x4,x5,x6,x7,x8,x9,x10,x11,x12,x13,x14,x15,x16,x17,x18,⟨⟩⟩ hp
 simp only[pre4,Zb,Za,cP] at hp
 obtain⟨hs,h1,h2,h3,hk⟩:=hp
 have hs':=bJ.1 hs
 show Wp (eO x1 x2 x3 x4 x5 x6 x7 x8 x9 x10 x11 x12 x13 x14 x15 x16 x17 x18) _
 unfold eO
 generalize hK:((x14,(x15,(x16,(x12,(x17,(x18,x13)))))):bB)=K at hk ⊢
 have q14:x14=K.1:=by rw[<-hK]
 have q15:x15=K.2.1:=by rw[<-hK]
 have q16:x16=K.2.2.1:=by rw[<-hK]
 have q12:x12=K.2.2.2.1:=by rw[<-hK]
 have q17:x17=K.2.2.2.2.1:=by rw[<-hK]
 have q18:x18=K.2.2.2.2.2.1:=by rw[<-hK]
 clear hK
 subst q14 q15 q16 q12 q17 q18
 by_cases hlt:x2<(x1.length:Int)
 . have hn:x2.toNat<x1.length:=by omega
   have e1:=Zn hn
   rw[dR hn,lN (n:=x2+1) (by omega) (by omega)]
   have hl:∀a:aF,decide (x11.length+(a::([]:List aF)).length<=gO)=true:=fun a=>by
    simp only[Za,Zg,Zh,gO];omega
   have nx:∀(K':bB) (a:aF),kI x3 K x1[x2.toNat]=(K',a)->hJ pre4 kU Q4 (x1,x2,x3,x4,x5,x6,x7,x8,x9,x10,x11,K.2.2.2.1,x13,K.1,K.2.1,K.2.2.1,K.2.2.2.2.1,K.2.2.2.2.2.1,())
    (.inl (x1,((x2+1),(x3,(x4,(x5,(x6,(x7,(x8,(x9,(x10,((List.append x11 (a::([]:List aF))),(K'.2.2.2.1,((),(K'.1,(K'.2.1,(K'.2.2.1,(K'.2.2.2.2.1,(K'.2.2.2.2.2.1,()))))))))))))))))))):=by
    intro K' a he
    have hok:=(wE (c:=x1[x2.toNat]) hk).1
    rw[he] at hok
    refine⟨?_,by simp only[kU];omega,?_⟩
    . simp only[pre4,Zb,Za,cP,List.append_eq,Zf,Zg,Zh]
      exact⟨hs,by omega,by omega,by omega,hok⟩
    . rintro⟨_,_,_,_,_,_,_,o11,o12,o13,o14,o15,o16,o17,o18,⟨⟩⟩ ho
      refine ho.trans ?_
      show pR x3 K' (x11++[a]) (x1.drop (x2+1).toNat)=pR x3 K x11 (x1.drop x2.toNat)
      rw[e1,show(x2+1).toNat=x2.toNat+1 by omega]
      simp only[pR,he]
   refine aG (Zd hlt) (bR (cF (fun c1=>?_) fun c1=>?_))
   . refine aG (Zd h1) (aG (Zd hlt) (bR (cF (fun c2=>?_) fun c2=>?_)))
     . refine aG (Zd h1) (aG (Zd hlt) (aG (show mM.pre x3 K x1[x2.toNat]=true from cP.2 ⟨hk c1,c2⟩) (bR (aG (hl _) (aH (nx (qD x3 K x1[x2.toNat]).1 (qD x3 K x1[x2.toNat]).2 ?_))))))
       unfold kI;rw[c1,c2];rfl
     . refine aG (hl _) (aH (nx K aIt ?_))
       unfold kI
       rw[not_true c2,Bool.and_false];rfl
   . refine aG (hl _) (aH (nx K aIt ?_))
     unfold kI
     rw[not_true c1,Bool.false_and];rfl
 . refine eG (by rw[Za];exact hlt) (aH ?_)
   show(K,x11)=pR x3 K x11 (x1.drop x2.toNat)
   rw[Zt (by omega)];rfl
noncomputable def fn4:S4->O4:=zS (fun(x:S4)=>eO x.1 x.2.1 x.2.2.1 x.2.2.2.1 x.2.2.2.2.1 x.2.2.2.2.2.1 x.2.2.2.2.2.2.1 x.2.2.2.2.2.2.2.1 x.2.2.2.2.2.2.2.2.1 x.2.2.2.2.2.2.2.2.2.1 x.2.2.2.2.2.2.2.2.2.2.1 x.2.2.2.2.2.2.2.2.2.2.2.1 x.2.2.2.2.2.2.2.2.2.2.2.2.1 x.2.2.2.2.2.2.2.2.2.2.2.2.2.1 x.2.2.2.2.2.2.2.2.2.2.2.2.2.2.1 x.2.2.2.2.2.2.2.2.2.2.2.2.2.2.2.1 x.2.2.2.2.2.2.2.2.2.2.2.2.2.2.2.2.1 x.2.2.2.2.2.2.2.2.2.2.2.2.2.2.2.2.2.1) kU
theorem vZ(x1:List fQ)(x2:Int)(x3:aP)(x4:Int)(x5:Unit)(x6:List bW)(x7:List aC)(x8:List aE)(x9:List Int)(x10 x11:List aF)(x12:Int)(x13:Unit)(x14:List bW)(x15:List aC)(x16:List aE)(x17:List Int)(x18:List aF)(hp:pre4 (x1,(x2,(x3,(x4,(x5,(x6,(x7,(x8,(x9,(x10,(x11,(x12,(x13,(x14,(x15,(x16,(x17,(x18,()))))))))))))))))))=true):
 aX pre4 kU fn4 (x1,(x2,(x3,(x4,(x5,(x6,(x7,(x8,(x9,(x10,(x11,(x12,(x13,(x14,(x15,(x16,(x17,(x18,())))))))))))))))))) (eO x1 x2 x3 x4 x5 x6 x7 x8 x9 x10 x11 x12 x13 x14 x15 x16 x17 x18):=oN wp4 hp
def pre(_:aP)(l:List fQ):Bool:=bQ l
abbrev wf(x0:aP)(x1:(List fQ)):Prop:=iM [(.val vY .f),(.val (.sl 0 wN) .f)] (x0,(x1,()))
noncomputable def aQ(x0:aP)(x1:(List fQ)):Option (Unit×(bB×((List aF)×Unit))):=
 if(fF.pre x0)=true then
 letB (gA x0) fun v1=>
 if(eN.pre4 (x1,((0:Int),(x0,((0:Int),((),(([]:List bW),(([]:List aC),(([]:List aE),(([]:List Int),(([]:List aF),(([]:List aF),(v1.2.2.2.1,(v1.2.2.2.2.2.2,(v1.1,(v1.2.1,(v1.2.2.1,v1.2.2.2.2)))))))))))))))))=true then
 letB (eN.fn4 (x1,((0:Int),(x0,((0:Int),((),(([]:List bW),(([]:List aC),(([]:List aE),(([]:List Int),(([]:List aF),(([]:List aF),(v1.2.2.2.1,(v1.2.2.2.2.2.2,(v1.1,(v1.2.1,(v1.2.2.1,v1.2.2.2.2))))))))))))))))) fun v2=>
 some ((),((v2.2.2.2.2.2.2.2.2.2.2.1,(v2.2.2.2.2.2.2.2.2.2.2.2.1,(v2.2.2.2.2.2.2.2.2.2.2.2.2.1,(v2.2.2.2.2.2.2.2.2.1,(v2.2.2.2.2.2.2.2.2.2.2.2.2.2.1,(v2.2.2.2.2.2.2.2.2.2.2.2.2.2.2.1,v2.2.2.2.2.2.2.2.2.2.1)))))),(v2.2.2.2.2.2.2.2.1,())))
 else
 none
 else
 none
theorem eq(x0:aP)(x1:List fQ)(_:wf x0 x1)(hp:pre x0 x1=true):aQ x0 x1=some ((),((dV x0 x1).1,((dV x0 x1).2,()))):=by
 have hs:bQ x1=true:=hp
 refine wH ?_
 unfold aQ
 have hq:pre4 (x1,((0:Int),(x0,((0:Int),((),(([]:List bW),(([]:List aC),(([]:List aE),(([]:List Int),(([]:List aF),(([]:List aF),((gA x0).2.2.2.1,((gA x0).2.2.2.2.2.2,((gA x0).1,((gA x0).2.1,((gA x0).2.2.1,(gA x0).2.2.2.2))))))))))))))))=true:=by
  show(bQ x1&&(decide ((0:Int)<=0)&&(decide ((0:Int)<=(x1.length:Int))&&(decide (((([]:List aF).length:Nat):Int)=0)&&B (dK x0=true->kD x0 (gA x0))))))=true
  simp only[Zb,Za,cP]
  exact⟨hs,by omega,by omega,rfl,xT⟩
 refine aG (show fF.pre x0=true from rfl) (bR (aG hq (cW (rI wp4 hq:Q4 _ (fn4 _)) ?_)))
 rintro⟨_,_,_,_,_,_,_,o11,o12,o13,o14,o15,o16,o17,o18,⟨⟩⟩ ho
 exact aH ho
end eN
abbrev eN:=dV
def lastB(p:Int×aF):List Int:=aKV [p.1,p.2.1,wrap .i64 (p.2.2.1+1)]++(aGp p.2.2.2.1++aGp p.2.2.2.2.1)
def lZ(x:List Int):Bool:=decide ((1048576:Int)<(x.length:Int))
namespace lZ
abbrev wf(x0:(List Int)):Prop:=iM [(.val (.sl 0 (.int .u8)) .f)] (x0,())
noncomputable def aQ(x0:(List Int)):Option mV:=
 some ((),((decide ((1048576:Int)<((length x0:Nat):Int))),()))
theorem eq(x0:List Int)(_:wf x0):aQ x0=some ((),(lZ x0,())):=rfl
end lZ
theorem aGs{x:List Int}(h:¬lZ x=true):bQ x=true:=by
 simp only[lZ,Za] at h
 rw[bJ];omega
theorem aBH{α:Type}[BEq α][ReflBEq α](a:α):¬(!(a==a))=true:=by rw[beq_self_eq_true];decide
theorem kE(a:Int):¬(!decide (a=a))=true:=by rw[Zd rfl];decide
noncomputable def kX(x:List Int)(i:Int):Int:=if i<(x.length:Int) then wrap .i64 (x.getD i.toNat 0) else Int.tmod (wrap .i64 (wrap .i64 (i*7)+(x.length:Int))) 256
namespace kX
def pre(_:List Int)(i:Int):Bool:=decide (0<=i)
abbrev wf(x0:(List Int))(x1:Int):Prop:=iM [(.val (.sl 0 (.int .u8)) .f),(.val (.int .i64) .f)] (x0,(x1,()))
noncomputable def aQ(x0:(List Int))(x1:Int):Option aAC:=
 if(decide (x1<((length x0:Nat):Int)))=true then
 if(decide ((0:Int)<=x1))=true then
 if(decide (x1<((length x0:Nat):Int)))=true then
 some ((),((wrap .i64 (List.getD x0 (Int.toNat x1) (0:Int))),()))
 else
 none
 else
 none
 else
 if(!(decide ((256:Int)=(0:Int))))=true then
 some ((),((Int.tmod (wrap .i64 ((wrap .i64 (x1*(7:Int)))+((length x0:Nat):Int))) (256:Int)),()))
 else
 none
theorem eq(x0:List Int)(x1:Int)(_:wf x0 x1)(hp:pre x0 x1=true):aQ x0 x1=some ((),(kX x0 x1,())):=by
 simp only[pre,Za] at hp
 unfold aQ kX
 by_cases h:x1<(x0.length:Int)
 . rw[if_pos (Zd h),if_pos h]
   exact bO (Zd hp) (bO (Zd h) rfl)
 . rw[if_neg (by rw[Za];exact h),if_neg h]
   exact bO (by decide) rfl
end kX
namespace iL
def pre(c:kM)(_:fQ):Bool:=mE c
abbrev wf(x0:lX)(x1:fQ):Prop:=iM [(.ref aB9 .f),(.val wN .f)] (x0,(x1,()))
noncomputable def aQ(x0:lX)(x1:fQ):Option ((lX×Unit)×(fQ×Unit)):=
 if(aJ.pre x0 (14:Int))=true then
 letB (aJ x0 (14:Int)) fun v1=>
 if(decide (v1.2=(0:Int)))=true then
 if(aK.pre v1.1 ((-2:Int)::((-1:Int)::((3:Int)::((4:Int)::([]:List Int))))))=true then
 letB (aK v1.1 ((-2:Int)::((-1:Int)::((3:Int)::((4:Int)::([]:List Int)))))) fun v2=>
 some ((v2.1,()),((v2.2,x1.2),()))
 else
 none
 else
 if(decide (v1.2=(1:Int)))=true then
 if(aK.pre v1.1 ((0:Int)::((-1:Int)::((100000:Int)::((100001:Int)::([]:List Int))))))=true then
 letB (aK v1.1 ((0:Int)::((-1:Int)::((100000:Int)::((100001:Int)::([]:List Int)))))) fun v3=>
 some ((v3.1,()),((x1.1,(v3.2,x1.2.2)),()))
 else
 none
 else
 if(decide (v1.2=(2:Int)))=true then
 if(aK.pre v1.1 ((-1:Int)::((0:Int)::((10:Int)::((11:Int)::([]:List Int))))))=true then
 letB (aK v1.1 ((-1:Int)::((0:Int)::((10:Int)::((11:Int)::([]:List Int)))))) fun v4=>
 some ((v4.1,()),((x1.1,(x1.2.1,(v4.2,x1.2.2.2))),()))
 else
 none
 else
 if(decide (v1.2=(3:Int)))=true then
 if(aK.pre v1.1 ((-1:Int)::((100000:Int)::((100001:Int)::((-9223372036854775808:Int)::([]:List Int))))))=true then
 letB (aK v1.1 ((-1:Int)::((100000:Int)::((100001:Int)::((-9223372036854775808:Int)::([]:List Int)))))) fun v5=>
 some ((v5.1,()),((x1.1,(x1.2.1,(x1.2.2.1,(v5.2,x1.2.2.2.2)))),()))
 else
 none
 else
 if(decide (v1.2=(4:Int)))=true then
 if(dF.pre v1.1 (((65:UInt8)::([]:List UInt8))::(((48:UInt8)::((49:UInt8)::((50:UInt8)::((51:UInt8)::((52:UInt8)::((53:UInt8)::((54:UInt8)::((55:UInt8)::((56:UInt8)::((57:UInt8)::((48:UInt8)::((49:UInt8)::((50:UInt8)::((51:UInt8)::((52:UInt8)::((53:UInt8)::((54:UInt8)::((55:UInt8)::((56:UInt8)::((57:UInt8)::((48:UInt8)::((49:UInt8)::((50:UInt8)::((51:UInt8)::((52:UInt8)::((53:UInt8)::((54:UInt8)::((55:UInt8)::((56:UInt8)::((57:UInt8)::((48:UInt8)::([]:List UInt8))))))))))))))))))))))))))))))))::([]:List (List UInt8)))))=true then
 letB (dF v1.1 (((65:UInt8)::([]:List UInt8))::(((48:UInt8)::((49:UInt8)::((50:UInt8)::((51:UInt8)::((52:UInt8)::((53:UInt8)::((54:UInt8)::((55:UInt8)::((56:UInt8)::((57:UInt8)::((48:UInt8)::((49:UInt8)::((50:UInt8)::((51:UInt8)::((52:UInt8)::((53:UInt8)::((54:UInt8)::((55:UInt8)::((56:UInt8)::((57:UInt8)::((48:UInt8)::((49:UInt8)::((50:UInt8)::((51:UInt8)::((52:UInt8)::((53:UInt8)::((54:UInt8)::((55:UInt8)::((56:UInt8)::((57:UInt8)::((48:UInt8)::([]:List UInt8))))))))))))))))))))))))))))))))::([]:List (List UInt8))))) fun v6=>
 some ((v6.1,()),((x1.1,(x1.2.1,(x1.2.2.1,(x1.2.2.2.1,(x1.2.2.2.2.1,(x1.2.2.2.2.2.1,(v6.2,x1.2.2.2.2.2.2.2))))))),()))
 else
 none
 else
 some ((v1.1,()),(x1,()))
 else
 none
theorem wp(x0:kM)(x1:fQ)(hp:pre x0 x1=true):Wp (aQ x0 x1) (fun r=>dP (fun _=>True) (r.1.1,r.2.1)):=by
 unfold aQ
 have hp:mE x0=true:=hp
 refine aG (show aJ.pre x0 _=true from hp) (cW (eJ hp) fun a ha=>?_)
 have pk:∀{l:List Int},0<l.length->aK.pre a.1 l=true:=fun h=>kW ha.1 h
 have pt:∀{l:List (List UInt8)},0<l.length->dF.pre a.1 l=true:=fun h=>uQ ha.1 h
 refine cF (fun _=>?_) fun _=>cF (fun _=>?_) fun _=>cF (fun _=>?_) fun _=>cF (fun _=>?_) fun _=>cF (fun _=>?_) fun _=>aH ⟨ha.1,trivial⟩
 . exact aG (pk (by simp)) (cW (eY (pk (by simp))) fun b hb=>aH ⟨hb.1,trivial⟩)
 . exact aG (pk (by simp)) (cW (eY (pk (by simp))) fun b hb=>aH ⟨hb.1,trivial⟩)
 . exact aG (pk (by simp)) (cW (eY (pk (by simp))) fun b hb=>aH ⟨hb.1,trivial⟩)
 . exact aG (pk (by simp)) (cW (eY (pk (by simp))) fun b hb=>aH ⟨hb.1,trivial⟩)
 . exact aG (pt (by simp)) (cW (sD (pt (by simp))) fun b hb=>aH ⟨hb.1,trivial⟩)
noncomputable def val(x0:kM)(x1:fQ):kM×fQ:=((yP (aQ x0 x1)).1.1,(yP (aQ x0 x1)).2.1)
theorem eq(x0:kM)(x1:fQ)(_:wf x0 x1)(hp:pre x0 x1=true):aQ x0 x1=some (((val x0 x1).1,()),((val x0 x1).2,())):=(jP (wp x0 x1 hp)).1
end iL
noncomputable def iL(x0:kM)(x1:fQ):kM×fQ:=iL.val x0 x1
def jG(l:List Int)(i:Int)(m:List Int):List Int:=l.take i.toNat++m++l.drop i.toNat
namespace jG
def pre(l:List Int)(i:Int)(m:List Int):Bool:=decide (0<=i)&&(decide (i<=(l.length:Int))&&(decide (0<m.length)&&decide ((l.length+m.length)*8<=140737488355328)))
end jG
def lU(l:List Int)(i j:Int):List Int:=l.take i.toNat++l.drop j.toNat
namespace lU
def pre(l:List Int)(i j:Int):Bool:=decide (0<=i)&&(decide (i<=j)&&decide (j<=(l.length:Int)))
end lU
theorem aGq{l:List Int}{i x:Int}{k:Nat}(h:i=(k:Int)):jG l i (x::([]:List Int))=zF k x l:=by
 subst h
 unfold jG zF
 rw[Int.toNat_natCast,Zk];rfl
theorem aDV{l:List Int}{i:Int}(h0:0<=i)(h1:i<=1000000000):lU l i (wrap .i64 (i+1))=l.eraseIdx i.toNat:=by
 rw[lN (n:=i+1) (by omega) (by omega)]
 unfold lU
 rw[List.eraseIdx_eq_take_drop_succ,show(i+1).toNat=i.toNat+1 by omega]
theorem aGK{l:List Int}{i x:Int}(h0:0<=i)(h1:i<=(l.length:Int))(h2:l.length<=16777216):jG.pre l i (x::([]:List Int))=true:=by
 simp only[jG.pre,Zb,Za,Zg,Zh]
 omega
theorem aGD{l:List Int}{i:Int}(h0:0<=i)(h1:i<(l.length:Int))(h2:l.length<=16777216):lU.pre l i (wrap .i64 (i+1))=true:=by
 rw[lN (n:=i+1) (by omega) (by omega)]
 simp only[lU.pre,Zb,Za]
 omega
def fS(g:aE):aE:=(upG g.1,g.2)
namespace fS
def pre(g:aE):Bool:=decide (g.1=g.1)
abbrev wf(x0:aE):Prop:=iM [(.ref zk9 .o)] (x0,())
noncomputable def aQ(x0:aE):Option ((aE×Unit)×Unit):=
 if(decide (x0.1<(100000:Int)))=true then
 some ((((wrap .i64 (x0.1+(1:Int))),x0.2),()),())
 else
 some ((x0,()),())
theorem eq(x0:aE)(hw:wf x0)(_:pre x0=true):aQ x0=some ((fS x0,()),()):=by
 have h:-9223372036854775808<=x0.1/\x0.1<=9223372036854775807:=aJZ.1 hw.1.1
 unfold aQ fS upG
 by_cases h1:100000<=x0.1
 . rw[if_pos h1]
   exact dC (by rw[Za];omega) rfl
 . rw[if_neg h1]
   refine bO (Zd (by omega)) ?_
   rw[lN (by omega) (by omega)]
end fS
abbrev gR:aE->Int->aE:=lI
namespace gR
def pre(g:aE)(i:Int):Bool:=gC g&&(decide (0<=i)&&decide (i<(g.2.1.length:Int)))
abbrev wf(x0:aE)(x1:Int):Prop:=iM [(.ref zk9 .o),(.val (.int .i64) .f)] (x0,(x1,()))
noncomputable def aQ(x0:aE)(x1:Int):Option ((aE×Unit)×Unit):=
 if(lU.pre x0.2.1 x1 (wrap .i64 (x1+(1:Int))))=true then
 if(decide (x1<((length x0.2.2.1:Nat):Int)))=true then
 if(lU.pre x0.2.2.1 x1 (wrap .i64 (x1+(1:Int))))=true then
 letB (lU x0.2.1 x1 (wrap .i64 (x1+(1:Int)))) fun v1=>
 letB (lU x0.2.2.1 x1 (wrap .i64 (x1+(1:Int)))) fun v2=>
 some (((x0.1,(v1,(v2,x0.2.2.2))),()),())
 else
 none
 else
 letB (lU x0.2.1 x1 (wrap .i64 (x1+(1:Int)))) fun v3=>
 some (((x0.1,(v3,x0.2.2)),()),())
 else
 none
theorem eq(x0:aE)(x1:Int)(_:wf x0 x1)(hp:pre x0 x1=true):aQ x0 x1=some ((lI x0 x1,()),()):=by
 simp only[pre,Zb,Za] at hp
 obtain⟨hs,h1,h2⟩:=hp
 have hg:=iQ.1 hs
 unfold aQ lI
 refine bO (aGD h1 h2 hg.1) ?_
 by_cases h3:x1<(x0.2.2.1.length:Int)
 . refine bO (Zd h3) (bO (aGD h1 h3 hg.2.1) (eK (eK ?_)))
   rw[aDV h1 (by omega),aDV h1 (by omega)]
 . refine dC (by rw[Za];exact h3) (eK ?_)
   rw[aDV h1 (by omega),List.eraseIdx_of_length_le (l:=x0.2.2.1) (by omega)]
end gR
def bP(l:List Int)(v:Int):Int:=jI v l 0
namespace bP
abbrev S2:Type:=((List Int)×(Int×bS))
abbrev O2:Type:=((Int×Unit)⊕Unit)
def pre2:S2->Bool:=fun(x1,_,x3,x4,_)=>decide (x3=(x1.length:Int))&&(decide (0<=x4)&&(decide (x4<=(x1.length:Int))&&decide (x1.length<=16777216)))
def fn2:S2->O2:=fun(x1,x2,_,x4,_)=>if 0<=jI x2 (x1.drop x4.toNat) x4 then .inl (jI x2 (x1.drop x4.toNat) x4,()) else .inr ()
def qY:S2->Nat:=fun(x1,_,_,x4,_)=>x1.length-x4.toNat
noncomputable def jX(x1:(List Int))(x2:Int)(x3:Int)(x4:Int):Option (((List Int)×(Int×bS))⊕((Int×Unit)⊕Unit)):=
 if(decide (x4<x3))=true then
 if(decide ((0:Int)<=x4))=true then
 if(decide (x4<((length x1:Nat):Int)))=true then
 if(decide (x2=(List.getD x1 (Int.toNat x4) (0:Int))))=true then
 some (.inr (.inl (x4,())))
 else
 some (.inl (x1,(x2,(x3,((wrap .i64 (x4+(1:Int))),())))))
 else
 none
 else
 none
 else
 some (.inr (.inr ()))
abbrev wf(x0:(List Int))(x1:Int):Prop:=iM [(.val (.sl 0 (.int .i64)) .f),(.val (.int .i64) .f)] (x0,(x1,()))
noncomputable def aQ(x0:(List Int))(x1:Int):Option aAC:=
 if(bP.pre2 (x0,(x1,(((length x0:Nat):Int),((0:Int),())))))=true then
  letB (bP.fn2 (x0,(x1,(((length x0:Nat):Int),((0:Int),()))))) fun v1=>
  match v1 with
  |.inl y=>
   some ((),y)
  |.inr y=>
   some ((),((-1:Int),()))
 else
  none
theorem ok2(x1:List Int)(x2 x3 x4:Int)(hp:pre2 (x1,(x2,(x3,(x4,()))))=true):aX pre2 qY fn2 (x1,(x2,(x3,(x4,())))) (jX x1 x2 x3 x4):=by
 simp only[pre2,Zb,Za] at hp
 obtain⟨rfl,h1,h2,h3⟩:=hp
 unfold jX
 by_cases hlt:x4<(x1.length:Int)
 . have hn:x4.toNat<x1.length:=by omega
   have e1:=Zn hn
   refine bU (Zd hlt) (bU (Zd h1) (bU (Zd hlt) ?_))
   rw[dR hn,lN (n:=x4+1) (by omega) (by omega)]
   by_cases he:x1[x4.toNat]=x2
   . refine bU (Zd he.symm) ?_
     show _=(if 0<=jI x2 (x1.drop x4.toNat) x4 then _ else _)
     rw[e1]
     simp only[jI,he,if_true]
     rw[if_pos h1]
   . refine dJ (by rw[Za];exact fun h=>he h.symm) ⟨?_,by simp only[qY];omega,?_⟩
     . simp only[pre2,Zb,Za];exact⟨trivial,by omega,by omega,h3⟩
     . show(if 0<=jI x2 (x1.drop (x4+1).toNat) (x4+1) then _ else _)=(if 0<=jI x2 (x1.drop x4.toNat) x4 then _ else _)
       rw[e1,show(x4+1).toNat=x4.toNat+1 by omega]
       simp only[jI,he,if_false]
 . refine dJ (by rw[Za];exact hlt) ?_
   show _=(if 0<=jI x2 (x1.drop x4.toNat) x4 then _ else _)
   rw[Zt (by omega)]
   rfl
def pre(l:List Int)(_:Int):Bool:=bQ l
theorem eq(x0:List Int)(x1:Int)(_:wf x0 x1)(hp:pre x0 x1=true):aQ x0 x1=some ((),(bP x0 x1,())):=by
 have hg:=bJ.1 (show bQ x0=true from hp)
 unfold aQ
 refine bO (show pre2 (x0,(x1,((x0.length:Int),((0:Int),()))))=true by simp only[pre2,Zb,Za];exact⟨trivial,by omega,by omega,hg⟩) (eK ?_)
 have hd:fn2 (x0,(x1,((x0.length:Int),((0:Int),()))))=if 0<=bP x0 x1 then .inl (bP x0 x1,()) else .inr ():=rfl
 rw[hd]
 have:=aAx (who:=x1) x0 0 (Int.le_refl _)
 by_cases h:0<=bP x0 x1
 . rw[if_pos h]
 . rw[if_neg h,show bP x0 x1=-1 by unfold bP at h ⊢;omega]
end bP
def bL(x who:Int):Bool:=decide (who<=x)
namespace bL
def pre(x _:Int):Bool:=decide (x=x)
abbrev wf(x0:Int)(x1:Int):Prop:=iM [(.val (.int .i64) .f),(.peek (.int .i64))] (x0,(x1,()))
noncomputable def aQ(x0:Int)(x1:Int):Option mV:=
 some ((),((decide (x1<=x0)),()))
theorem eq(x0 x1:Int)(_:wf x0 x1)(_:pre x0 x1=true):aQ x0 x1=some ((),(bL x0 x1,())):=rfl
end bL
theorem aDW{who:Int}:(ms bs:List Int)->(i:Int)->0<=i->(lL (fun x=>bL x who) ms i<0->oA who ms bs=min ms.length bs.length)/\
 (0<=lL (fun x=>bL x who) ms i->i<=lL (fun x=>bL x who) ms i/\lL (fun x=>bL x who) ms i<=i+ms.length/\(oA who ms bs:Int)=min (lL (fun x=>bL x who) ms i-i) (bs.length:Int))
 |[],bs,i,h0=>by
  have e:oA who [] bs=0:=by cases bs<;>rfl
  rw[e]
  simp only[lL,Zh]
  omega
 |m::ms,[],i,h0=>by
  have e:oA who (m::ms) []=0:=rfl
  have ih:=(aDW (who:=who) ms [] (i+1) (by omega)).2
  rw[e]
  simp only[lL,Zh,Zg]
  split
  . omega
  . refine⟨fun _=>by omega,fun h=>?_⟩
    have:=ih h
    omega
 |m::ms,b::bs,i,h0=>by
  have ih:=aDW (who:=who) ms bs (i+1) (by omega)
  have hd:bL m who=decide (who<=m):=rfl
  simp only[lL,oA,Zg]
  by_cases c:m<who
  . rw[if_neg (show ¬bL m who=true by rw[hd,Za];omega),if_pos c]
    refine⟨fun h=>?_,fun h=>?_⟩
    . have:=ih.1 h;omega
    . have:=ih.2 h;omega
  . rw[if_pos (show bL m who=true by rw[hd,Za];omega),if_neg c]
    refine⟨fun h=>by omega,fun h=>by omega⟩
abbrev hN:aE->Int->Int->aE:=iJ
namespace hN
def pre(g:aE)(_ _:Int):Bool:=gC g
abbrev wf(x0:aE)(x1:Int)(x2:Int):Prop:=iM [(.val zk9 .f),(.val (.int .i64) .f),(.val (.int .i64) .f)] (x0,(x1,(x2,())))
noncomputable def aQ(x0:aE)(x1:Int)(x2:Int):Option aCw:=
 if(aS.pre x0)=true then
 if(cZ.pre x1)=true then
 letB (cZ x1) fun v1=>
 if(!v1)=true then
 letB (aS x0) fun v2=>
 some ((),(v2,()))
 else
 letB (aS x0) fun v3=>
 if(bP.pre v3.2.1 x1)=true then
 letB (bP v3.2.1 x1) fun v4=>
 if(decide ((0:Int)<=v4))=true then
 if(decide (v4<((length v3.2.2.1:Nat):Int)))=true then
 if(decide ((0:Int)<=v4))=true then
 if(decide (v4<((length v3.2.2.1:Nat):Int)))=true then
 some ((),((v3.1,(v3.2.1,((List.modify v3.2.2.1 (Int.toNat v4) (fun z=>x2)),v3.2.2.2))),()))
 else
 none
 else
 none
 else
 some ((),(v3,()))
 else
 if(bC.pre v3.2.1 ((fun x=>(bL.pre x x1)),(fun x=>(bL x x1))))=true then
 letB (bC v3.2.1 ((fun x=>(bL.pre x x1)),(fun x=>(bL x x1)))) fun v5=>
 if(decide (v5<(0:Int)))=true then
 if(jG.pre v3.2.1 (if(decide (((length v3.2.2.1:Nat):Int)<((length v3.2.1:Nat):Int)))=true then((length v3.2.2.1:Nat):Int) else((length v3.2.1:Nat):Int)) (x1::([]:List Int)))=true then
 if(jG.pre v3.2.2.1 (if(decide (((length v3.2.2.1:Nat):Int)<((length v3.2.1:Nat):Int)))=true then((length v3.2.2.1:Nat):Int) else((length v3.2.1:Nat):Int)) (x2::([]:List Int)))=true then
 letB (jG v3.2.1 (if(decide (((length v3.2.2.1:Nat):Int)<((length v3.2.1:Nat):Int)))=true then((length v3.2.2.1:Nat):Int) else((length v3.2.1:Nat):Int)) (x1::([]:List Int))) fun v6=>
 letB (jG v3.2.2.1 (if(decide (((length v3.2.2.1:Nat):Int)<((length v3.2.1:Nat):Int)))=true then((length v3.2.2.1:Nat):Int) else((length v3.2.1:Nat):Int)) (x2::([]:List Int))) fun v7=>
 if(fS.pre (v3.1,(v6,(v7,v3.2.2.2))))=true then
 letB (fS (v3.1,(v6,(v7,v3.2.2.2)))) fun v8=>
 some ((),(v8,()))
 else
 none
 else
 none
 else
 none
 else
 if(jG.pre v3.2.1 (if(decide (((length v3.2.2.1:Nat):Int)<v5))=true then((length v3.2.2.1:Nat):Int) else v5) (x1::([]:List Int)))=true then
 if(jG.pre v3.2.2.1 (if(decide (((length v3.2.2.1:Nat):Int)<v5))=true then((length v3.2.2.1:Nat):Int) else v5) (x2::([]:List Int)))=true then
 letB (jG v3.2.1 (if(decide (((length v3.2.2.1:Nat):Int)<v5))=true then((length v3.2.2.1:Nat):Int) else v5) (x1::([]:List Int))) fun v9=>
 letB (jG v3.2.2.1 (if(decide (((length v3.2.2.1:Nat):Int)<v5))=true then((length v3.2.2.1:Nat):Int) else v5) (x2::([]:List Int))) fun v10=>
 if(fS.pre (v3.1,(v9,(v10,v3.2.2.2))))=true then
 letB (fS (v3.1,(v9,(v10,v3.2.2.2)))) fun v11=>
 some ((),(v11,()))
 else
 none
 else
 none
 else
 none
 else
 none
 else
 none
 else
 none
 else
 none
theorem eq(x0:aE)(x1 x2:Int)(_:wf x0 x1 x2)(hp:pre x0 x1 x2=true):aQ x0 x1 x2=some ((),(iJ x0 x1 x2,())):=by
 have hs:gC x0=true:=hp
 have hg:=iQ.1 hs
 unfold aQ iJ
 refine bO (show aS.pre x0=true from hs) (bO (by first|rfl|decide|exact Zd (Int.le_refl _)) (eK ?_))
 show(if(!aA x1 0 3)=true then _ else _)=_
 cases hin:aA x1 0 3
 . rfl
 refine dC (by decide) (eK ?_)
 rw[show aS x0=x0 from rfl]
 refine bO (show bP.pre x0.2.1 x1=true from bJ.2 hg.1) (eK ?_)
 rw[if_pos rfl]
 show(if decide (0<=atG x0 x1)=true then _ else _)=_
 by_cases h0:0<=atG x0 x1
 . refine bO (Zd h0) ?_
   rw[if_pos h0]
   show(if decide (atG x0 x1<(x0.2.2.1.length:Int))=true then _ else _)=_
   by_cases h1:atG x0 x1<(x0.2.2.1.length:Int)
   . rw[if_pos h1]
     exact bO (Zd h1) (bO (Zd h0) (bO (Zd h1) rfl))
   . rw[if_neg h1]
     exact dC (by rw[Za];exact h1) rfl
 . rw[if_neg h0]
   have hi:=aDW (who:=x1) x0.2.1 x0.2.2.1 0 (Int.le_refl _)
   have hl:=aAm (who:=x1) x0.2.1 x0.2.2.1
   refine dC (by rw[Za];exact h0) (bO (show bC.pre x0.2.1 _=true by simp[bC.pre,bL.pre]) (eK ?_))
   obtain⟨k,hk⟩:∃k,k=oA x1 x0.2.1 x0.2.2.1:=⟨_,rfl⟩
   rw[<-hk] at hi hl ⊢
   obtain⟨v,hv⟩:∃v,v=lL (fun x=>bL x x1) x0.2.1 0:=⟨_,rfl⟩
   rw[<-hv] at hi
   show(if decide (bC x0.2.1 _<0)=true then _ else _)=_
   rw[show bC x0.2.1 (fun x=>bL.pre x x1,fun x=>bL x x1)=v from hv.symm]
   have fin:∀e:Int,e=(k:Int)->(if jG.pre x0.2.1 e (x1::([]:List Int))=true then if jG.pre x0.2.2.1 e (x2::([]:List Int))=true then letB (jG x0.2.1 e (x1::([]:List Int))) fun v6=>letB (jG x0.2.2.1 e (x2::([]:List Int))) fun v7=>
    if fS.pre (x0.1,(v6,(v7,x0.2.2.2)))=true then letB (fS (x0.1,(v6,(v7,x0.2.2.2)))) fun v8=>some ((),(v8,())) else none else none else none)=some ((),((upG x0.1,(zF k x1 x0.2.1,(zF k x2 x0.2.2.1,x0.2.2.2))),())):=by
    intro e he
    refine bO (aGK (by omega) (by omega) hg.1) (bO (aGK (by omega) (by omega) hg.2.1) (eK (eK (bO (Zd rfl) (eK ?_)))))
    rw[aGq he,aGq he];rfl
   by_cases hneg:v<0
   . refine bO (Zd hneg) (fin _ ?_)
     have:=hi.1 hneg
     split
     . rename_i h;rw[Za] at h;omega
     . rename_i h;rw[Za] at h;omega
   . refine dC (by rw[Za];exact hneg) (fin _ ?_)
     have:=hi.2 (by omega)
     split
     . rename_i h;rw[Za] at h;omega
     . rename_i h;rw[Za] at h;omega
end hN
abbrev iG:aE->Int->aE:=fD
namespace iG
def pre(g:aE)(_:Int):Bool:=gC g
abbrev wf(x0:aE)(x1:Int):Prop:=iM [(.val zk9 .f),(.val (.int .i64) .f)] (x0,(x1,()))
noncomputable def aQ(x0:aE)(x1:Int):Option aCw:=
 if(aS.pre x0)=true then
 letB (aS x0) fun v1=>
 if(bP.pre v1.2.1 x1)=true then
 letB (bP v1.2.1 x1) fun v2=>
 if(decide ((0:Int)<=v2))=true then
 if(cZ.pre x1)=true then
 letB (cZ x1) fun v3=>
 if v3=true then
 if(gR.pre v1 v2)=true then
 letB (gR v1 v2) fun v4=>
 if(fS.pre v4)=true then
 letB (fS v4) fun v5=>
 some ((),(v5,()))
 else
 none
 else
 none
 else
 some ((),(v1,()))
 else
 none
 else
 some ((),(v1,()))
 else
 none
 else
 none
theorem eq(x0:aE)(x1:Int)(_:wf x0 x1)(hp:pre x0 x1=true):aQ x0 x1=some ((),(fD x0 x1,())):=by
 have hs:gC x0=true:=hp
 have hg:=iQ.1 hs
 unfold aQ
 refine bO (show aS.pre x0=true from hs) (eK (bO (show bP.pre x0.2.1 x1=true from bJ.2 hg.1) (eK ?_)))
 show(if decide (0<=atG x0 x1)=true then _ else _)=_
 by_cases h0:0<=atG x0 x1
 . have:=tN (who:=x1) x0.2.1 0 (Int.le_refl _) h0
   refine bO (Zd h0) (bO (by first|rfl|decide|exact Zd (Int.le_refl _)) (eK ?_))
   show(if aA x1 0 3=true then _ else _)=_
   cases hin:aA x1 0 3
   . rw[show fD x0 x1=x0 from if_neg (by rw[hin];simp)]
     rfl
   . rw[show fD x0 x1=_ from if_pos ⟨h0,hin⟩]
     refine bO rfl (bO (show gR.pre x0 (atG x0 x1)=true by simp only[gR.pre,Zb,Za];exact⟨hs,h0,by unfold atG at *;omega⟩) (eK (bO (Zd rfl) rfl)))
 . rw[show fD x0 x1=x0 from if_neg (fun h=>h0 h.1)]
   exact dC (by rw[Za];exact h0) rfl
end iG
abbrev jM:aE->Int->Int:=nK
namespace jM
def pre(g:aE)(_:Int):Bool:=gC g
abbrev wf(x0:aE)(x1:Int):Prop:=iM [(.val zk9 .f),(.val (.int .i64) .f)] (x0,(x1,()))
noncomputable def aQ(x0:aE)(x1:Int):Option aAC:=
 if(decide (((length x0.2.1:Nat):Int)=(0:Int)))=true then
 some ((),((-1:Int),()))
 else
 if(decide (x1<(0:Int)))=true then
 some ((),((-1:Int),()))
 else
 if(!(decide (((length x0.2.1:Nat):Int)=(0:Int))))=true then
 if(decide ((0:Int)<=(Int.tmod x1 ((length x0.2.1:Nat):Int))))=true then
 if(decide ((Int.tmod x1 ((length x0.2.1:Nat):Int))<((length x0.2.1:Nat):Int)))=true then
 some ((),((List.getD x0.2.1 (Int.toNat (Int.tmod x1 ((length x0.2.1:Nat):Int))) (0:Int)),()))
 else
 none
 else
 none
 else
 none
theorem eq(x0:aE)(x1:Int)(_:wf x0 x1)(_:pre x0 x1=true):aQ x0 x1=some ((),(nK x0 x1,())):=by
 unfold aQ
 by_cases h1:(x0.2.1.length:Int)=0
 . rw[show nK x0 x1=-1 from if_pos (Or.inl h1)]
   exact bO (Zd h1) rfl
 by_cases h2:x1<0
 . rw[show nK x0 x1=-1 from if_pos (Or.inr h2)]
   exact dC (by rw[Za];exact h1) (bO (Zd h2) rfl)
 rw[show nK x0 x1=_ from if_neg (fun h=>h.elim h1 h2)]
 have t1:=Int.tmod_nonneg (x0.2.1.length:Int) (show 0<=x1 by omega)
 have t2:=Int.tmod_lt_of_pos x1 (show 0<(x0.2.1.length:Int) by omega)
 exact dC (by rw[Za];exact h1) (dC (by rw[Za];exact h2) (bO (by simp only[Bool.not_eq_true',Zv];exact h1) (bO (Zd t1) (bO (Zd t2) rfl))))
end jM
abbrev hY:aE->Int->Int->Int->Int->aE×Bool:=gN
namespace hY
def pre(g:aE)(_ _ _ _:Int):Bool:=gC g
abbrev wf(x0:aE)(x1:Int)(x2:Int)(x3:Int)(x4:Int):Prop:=iM [(.val zk9 .f),(.val (.int .i64) .f),(.val (.int .i64) .f),(.val (.int .i64) .f),(.val (.int .i64) .f)] (x0,(x1,(x2,(x3,(x4,())))))
noncomputable def aQ(x0:aE)(x1:Int)(x2:Int)(x3:Int)(x4:Int):Option (Unit×(aE×(Bool×Unit))):=
 if(aS.pre x0)=true then
 if(!(decide (x2=x0.1)))=true then
 letB (aS x0) fun v1=>
 some ((),(v1,(false,())))
 else
 letB (aA x3 (0:Int) (wrap .i64 (((length x0.2.2.2.1:Nat):Int)-(1:Int)))) fun v2=>
 if(!v2)=true then
 letB (aS x0) fun v3=>
 some ((),(v3,(false,())))
 else
 if(jM.pre x0 x3)=true then
 letB (jM x0 x3) fun v4=>
 if(!(decide (v4=x1)))=true then
 letB (aS x0) fun v5=>
 some ((),(v5,(false,())))
 else
 if(decide ((0:Int)<=x3))=true then
 if(decide (x3<((length x0.2.2.2.1:Nat):Int)))=true then
 if(decide (x4<(List.getD x0.2.2.2.1 (Int.toNat x3) (0:Int))))=true then
 letB (aS x0) fun v6=>
 some ((),(v6,(false,())))
 else
 if(decide ((0:Int)<=x3))=true then
 letB (aS x0) fun v7=>
 if(decide (x3<((length v7.2.2.2.1:Nat):Int)))=true then
 some ((),((v7.1,(v7.2.1,(v7.2.2.1,((List.modify v7.2.2.2.1 (Int.toNat x3) (fun z=>x4)),v7.2.2.2.2)))),(true,())))
 else
 none
 else
 none
 else
 none
 else
 none
 else
 none
 else
 none
theorem eq(x0:aE)(x1 x2 x3 x4:Int)(_:wf x0 x1 x2 x3 x4)(hp:pre x0 x1 x2 x3 x4=true):aQ x0 x1 x2 x3 x4=some ((),((gN x0 x1 x2 x3 x4).1,((gN x0 x1 x2 x3 x4).2,()))):=by
 have hs:gC x0=true:=hp
 have hg:=iQ.1 hs
 unfold aQ
 have no:qL x0 x1 x2 x3 x4=false->gN x0 x1 x2 x3 x4=(x0,false):=fun h=>if_neg (by rw[h];simp)
 rw[lN (n:=(x0.2.2.2.1.length:Int)-1) (by omega) (by omega)]
 refine bO (show aS.pre x0=true from hs) ?_
 by_cases h1:x2=x0.1
 case neg=>
  rw[no (by simp[qL,h1]),decide_eq_false h1];rfl
 rw[Zd h1]
 refine dC (by decide) (eK ?_)
 cases hin:aA x3 0 ((x0.2.2.2.1.length:Int)-1)
 . rw[no (by simp[qL,hin])];rfl
 have hw:=pC hin
 refine dC (by decide) (bO (show jM.pre x0 x3=true from hs) (eK ?_))
 by_cases h2:nK x0 x3=x1
 case neg=>rw[no (by simp[qL,h2]),decide_eq_false h2];rfl
 rw[Zd h2]
 refine dC (by decide) (bO (Zd hw.1) (bO (Zd (by omega)) ?_))
 by_cases h3:x4<x0.2.2.2.1.getD x3.toNat 0
 . rw[no (by simp only[qL,decide_eq_false (p:=x0.2.2.2.1.getD x3.toNat 0<=x4) (by omega),Bool.and_false])]
   exact bO (Zd h3) rfl
 . rw[show gN x0 x1 x2 x3 x4=_ from if_pos (by simp only[qL,Zd (p:=x0.2.2.2.1.getD x3.toNat 0<=x4) (by omega),Zd h1,Zd h2,hin];rfl)]
   exact dC (by rw[Za];exact h3) (bO (Zd hw.1) (eK (bO (Zd (show x3<(x0.2.2.2.1.length:Int) by omega)) rfl)))
end hY
abbrev gI:aE->Int->aE:=lQ
theorem aDn{α:Type}{l:List α}{k:Nat}(h:k<l.length):l.take (k+1)=l.take k++[l[k]]:=List.take_succ_eq_append_getElem h
theorem aBV{α:Type}{l:List α}{k:Nat}:(l.eraseIdx k).take k=l.take k:=by
 rw[List.eraseIdx_eq_take_drop_succ]
 rcases Nat.lt_or_ge k l.length with h|h
 . rw[List.take_append_of_le_length (by rw[Zr];omega),List.take_take,Nat.min_self]
 . rw[Zt (by omega),List.append_nil,List.take_take,Nat.min_self]
theorem aBy{α:Type}{l:List α}{k:Nat}(h:k<l.length):(l.eraseIdx k).drop k=l.drop (k+1):=by
 have hl:(l.take k).length=k:=by rw[Zr];omega
 rw[List.eraseIdx_eq_take_drop_succ,List.drop_append,Zt (by omega),hl,Nat.sub_self];rfl
theorem aCN{g:aE}{t i:Int}(h:pN g t=true):pN (lI g i) t=true:=by
 rw[rU] at h ⊢
 obtain⟨h1,h2,h3,h4,h5⟩:=h
 refine⟨wU h1,?_,h3,h4,fun b hb=>h5 b (List.mem_of_mem_eraseIdx hb)⟩
 show(g.2.2.1.eraseIdx i.toNat).length=(g.2.1.eraseIdx i.toNat).length
 rw[List.length_eraseIdx,List.length_eraseIdx,h2]
namespace gI
abbrev S6:Type:=(Int×(Bool×(Int×aBb)))
abbrev O6:Type:=(Bool×aBb)
def pre6:S6->Bool:=fun(x1,_,x3,_,_,_,_,_,x9,_,x11,x12,x13,_)=>pN (x9,(x11,(x12,(x13,())))) x1&&(decide (0<=x3)&&decide (x3<=(x11.length:Int)))
def mu6:S6->Nat:=fun(_,_,x3,_,_,_,_,_,_,_,x11,_)=>x11.length-x3.toNat
def fn6:S6->O6:=fun(x1,x2,x3,x4,x5,x6,x7,x8,x9,x10,x11,x12,x13,_)=>(x2||qZ x1 (x12.drop x3.toNat),(x4,(x5,(x6,(x7,(x8,(x9,(x10,(x11.take x3.toNat++qB x1 (x11.drop x3.toNat) (x12.drop x3.toNat),(x12.take x3.toNat++qE x1 (x12.drop x3.toNat),(x13,())))))))))))
noncomputable def aCM(x1:Int)(x2:Bool)(x3:Int)(x4:Int)(x5:Unit)(x6:(List Int))(x7:(List Int))(x8:(List Int))(x9:Int)(x10:Unit)(x11:(List Int))(x12:(List Int))(x13:(List Int)):Option ((Int×(Bool×(Int×aBb)))⊕(Bool×aBb)):=
 if(decide (x3<((length x11:Nat):Int)))=true then
 if(decide (x3<((length x12:Nat):Int)))=true then
 if(decide ((0:Int)<=x3))=true then
 if(decide (x3<((length x12:Nat):Int)))=true then
 if(decide ((List.getD x12 (Int.toNat x3) (0:Int))<(wrap .i64 (x1-(50:Int)))))=true then
 if(gR.pre (x9,(x11,(x12,(x13,x10)))) x3)=true then
 letB (gR (x9,(x11,(x12,(x13,x10)))) x3) fun v1=>
 some (.inl (x1,(true,(x3,(x4,(x5,(x6,(x7,(x8,(v1.1,(v1.2.2.2.2,v1.2)))))))))))
 else
 none
 else
 some (.inl (x1,(x2,((wrap .i64 (x3+(1:Int))),(x4,(x5,(x6,(x7,(x8,(x9,(x10,(x11,(x12,(x13,()))))))))))))))
 else
 none
 else
 none
 else
 some (.inl (x1,(x2,((wrap .i64 (x3+(1:Int))),(x4,(x5,(x6,(x7,(x8,(x9,(x10,(x11,(x12,(x13,()))))))))))))))
 else
 some (.inr (x2,(x4,(x5,(x6,(x7,(x8,(x9,(x10,(x11,(x12,(x13,()))))))))))))
abbrev wf(x0:aE)(x1:Int):Prop:=iM [(.val zk9 .f),(.val (.int .i64) .f)] (x0,(x1,()))
noncomputable def aQ(x0:aE)(x1:Int):Option aCw:=
 if(aS.pre x0)=true then
 if(decide (x1<(-9223372036854775758:Int)))=true then
 letB (aS x0) fun v1=>
 some ((),(v1,()))
 else
 letB (aS x0) fun v2=>
 if(gI.pre6 (x1,(false,((0:Int),((0:Int),((),(([]:List Int),(([]:List Int),(([]:List Int),(v2.1,(v2.2.2.2.2,v2.2)))))))))))=true then
 letB (gI.fn6 (x1,(false,((0:Int),((0:Int),((),(([]:List Int),(([]:List Int),(([]:List Int),(v2.1,(v2.2.2.2.2,v2.2))))))))))) fun v3=>
 if v3.1=true then
 if(fS.pre (v3.2.2.2.2.2.2.1,(v3.2.2.2.2.2.2.2.2.1,(v3.2.2.2.2.2.2.2.2.2.1,(v3.2.2.2.2.2.2.2.2.2.2.1,v3.2.2.2.2.2.2.2.1)))))=true then
 letB (fS (v3.2.2.2.2.2.2.1,(v3.2.2.2.2.2.2.2.2.1,(v3.2.2.2.2.2.2.2.2.2.1,(v3.2.2.2.2.2.2.2.2.2.2.1,v3.2.2.2.2.2.2.2.1))))) fun v4=>
 some ((),(v4,()))
 else
 none
 else
 some ((),((v3.2.2.2.2.2.2.1,(v3.2.2.2.2.2.2.2.2.1,(v3.2.2.2.2.2.2.2.2.2.1,(v3.2.2.2.2.2.2.2.2.2.2.1,v3.2.2.2.2.2.2.2.1)))),()))
 else
 none
 else
 none
theorem ok6(x1:Int)(x2:Bool)(x3 x4:Int)(x5:Unit)(x6 x7 x8:List Int)(x9:Int)(x10:Unit)(x11 x12 x13:List Int)(hp:pre6 (x1,(x2,(x3,(x4,(x5,(x6,(x7,(x8,(x9,(x10,(x11,(x12,(x13,())))))))))))))=true):
 aX pre6 mu6 fn6 (x1,(x2,(x3,(x4,(x5,(x6,(x7,(x8,(x9,(x10,(x11,(x12,(x13,()))))))))))))) (aCM x1 x2 x3 x4 x5 x6 x7 x8 x9 x10 x11 x12 x13):=by
 simp only[pre6,Zb,Za] at hp
 obtain⟨ht,h1,h2⟩:=hp
 obtain⟨hs,hlen,t0,t1,hb⟩:=rU.1 ht
 have hg:=iQ.1 hs
 simp only[] at hlen hb hg
 unfold aCM
 by_cases a1:x3<(x11.length:Int)
 . have hn:x3.toNat<x11.length:=by omega
   have hn2:x3.toNat<x12.length:=by omega
   have e1:=Zn hn
   have e2:=Zn hn2
   have a2:x3<(x12.length:Int):=by omega
   refine bU (Zd a1) (bU (Zd a2) (bU (Zd h1) (bU (Zd a2) ?_)))
   rw[dR hn2,lN (n:=x1-50) (by omega) (by omega),lN (n:=x3+1) (by omega) (by omega)]
   by_cases c:x12[x3.toNat]<x1-50
   . refine bU (Zd c) (bU (show gR.pre _ _=true by simp only[gR.pre,Zb,Za];exact⟨hs,h1,a1⟩) ⟨?_,?_,?_⟩)
     . show(pN (lI (x9,(x11,(x12,(x13,())))) x3) x1&&(decide (0<=x3)&&decide (x3<=((x11.eraseIdx x3.toNat).length:Int))))=true
       simp only[Zb,Za]
       exact⟨aCN ht,h1,by rw[List.length_eraseIdx,if_pos hn];omega⟩
     . show(x11.eraseIdx x3.toNat).length-x3.toNat<x11.length-x3.toNat
       rw[List.length_eraseIdx,if_pos hn];omega
     . simp only[fn6,lI]
       rw[aBV,aBV,aBy hn,aBy hn2,e1,e2]
       simp only[qB,qE,qZ,List.any_cons,c,if_true,decide_true,Bool.true_or,Bool.or_true]
   . refine dJ (by rw[Za];exact c) ⟨?_,by simp only[mu6];omega,?_⟩
     . simp only[pre6,Zb,Za]
       exact⟨ht,by omega,by omega⟩
     . simp only[fn6]
       rw[show(x3+1).toNat=x3.toNat+1 by omega,aDn hn,aDn hn2,e1,e2]
       simp only[qB,qE,qZ,List.any_cons,c,if_false,decide_false,Bool.false_or,Zk,List.singleton_append]
 . refine dJ (by rw[Za];exact a1) ?_
   have e1:x11.drop x3.toNat=[]:=Zt (by omega)
   have e2:x12.drop x3.toNat=[]:=Zt (by omega)
   have e3:x11.take x3.toNat=x11:=List.take_of_length_le (by omega)
   have e4:x12.take x3.toNat=x12:=List.take_of_length_le (by omega)
   show _=fn6 _
   simp only[fn6,e1,e2,e3,e4,qB,qE,qZ,List.any_nil,Bool.or_false,List.append_nil]
def pre(g:aE)(t:Int):Bool:=pN g t
theorem eq(x0:aE)(x1:Int)(_:wf x0 x1)(hp:pre x0 x1=true):aQ x0 x1=some ((),(lQ x0 x1,())):=by
 have ht:pN x0 x1=true:=hp
 obtain⟨hs,hlen,t0,t1,hb⟩:=rU.1 ht
 have hf1:fn6 (x1,(false,((0:Int),((0:Int),((),(([]:List Int),(([]:List Int),(([]:List Int),(x0.1,((),(x0.2.1,(x0.2.2.1,(x0.2.2.2.1,())))))))))))))=(qZ x1 x0.2.2.1,((0:Int),((),(([]:List Int),(([]:List Int),(([]:List Int),(x0.1,((),(qB x1 x0.2.1 x0.2.2.1,(qE x1 x0.2.2.1,(x0.2.2.2.1,()))))))))))):=by
  simp only[fn6,Int.toNat_zero,List.drop_zero,List.take_zero,List.nil_append,Bool.false_or]
 have hf:fn6 (x1,(false,((0:Int),((0:Int),((),(([]:List Int),(([]:List Int),(([]:List Int),(x0.1,(x0.2.2.2.2,x0.2))))))))))=_:=hf1
 unfold aQ
 refine bO (show aS.pre x0=true from hs) (dC (by rw[Za];omega) (eK ?_))
 rw[show aS x0=x0 from rfl]
 refine bO (show pre6 _=true by simp only[pre6,Zb,Za];exact⟨ht,by omega,by omega⟩) (eK ?_)
 rw[hf]
 unfold lQ
 cases hk:qZ x1 x0.2.2.1
 . rfl
 . exact bO rfl (bO (Zd rfl) rfl)
end gI
abbrev fV:List aC->Int->Int->aC:=jS
namespace fV
abbrev S2:Type:=(Int×(Int×((List aC)×(Int×(Int×aBe)))))
abbrev O2:Type:=(aBe⊕(Int×(Int×aBe)))
def pre2:S2->Bool:=fun(_,_,x3,x4,x5,_)=>uY x3&&(decide (x4=(x3.length:Int))&&(decide (0<=x5)&&decide (x5<=(x3.length:Int))))
def qY:S2->Nat:=fun(_,_,x3,_,x5,_)=>x3.length-x5.toNat
def fn2:S2->O2:=fun(x1,x2,x3,_,x5,x6,x7,x8,x9,x10,x11,_)=>match(x3.drop x5.toNat).find? (kT x1 x2) with
 |some m=>.inl (m.1,(m.2.1,(m.2.2.1,(m.2.2.2.1,((),(m.2.2.2.2.1,()))))))
 |none=>.inr (x1,(x2,(x6,(x7,(x8,(x9,(x10,(x11,()))))))))
noncomputable def jX(x1:Int)(x2:Int)(x3:(List aC))(x4:Int)(x5:Int)(x6:Int)(x7:Int)(x8:Int)(x9:Int)(x10:Unit)(x11:(List bS)):Option ((Int×(Int×((List aC)×(Int×(Int×aBe)))))⊕(aBe⊕(Int×(Int×aBe)))):=
 if(decide (x5<x4))=true then
 if(decide ((0:Int)<=x5))=true then
 if(decide (x5<((length x3:Nat):Int)))=true then
 if(decide ((List.getD x3 (Int.toNat x5) kK).1=x1))=true then
 if(decide ((List.getD x3 (Int.toNat x5) kK).2.1=x2))=true then
 if(aR.pre (List.getD x3 (Int.toNat x5) kK))=true then
 letB (aR (List.getD x3 (Int.toNat x5) kK)) fun v1=>
 some (.inr (.inl (v1.1,(v1.2.1,(v1.2.2.1,(v1.2.2.2.1,(v1.2.2.2.2.2,v1.2.2.2.2)))))))
 else
 none
 else
 some (.inl (x1,(x2,(x3,(x4,((wrap .i64 (x5+(1:Int))),(x6,(x7,(x8,(x9,(x10,(x11,()))))))))))))
 else
 some (.inl (x1,(x2,(x3,(x4,((wrap .i64 (x5+(1:Int))),(x6,(x7,(x8,(x9,(x10,(x11,()))))))))))))
 else
 none
 else
 none
 else
 some (.inr (.inr (x1,(x2,(x6,(x7,(x8,(x9,(x10,(x11,()))))))))))
abbrev wf(x0:(List aC))(x1:Int)(x2:Int):Prop:=iM [(.val (.sl 0 wQ) .f),(.val (.int .i64) .f),(.val (.int .i64) .f)] (x0,(x1,(x2,())))
noncomputable def aQ(x0:(List aC))(x1:Int)(x2:Int):Option (Unit×(aC×Unit)):=
 if(fV.pre2 (x1,(x2,(x0,(((length x0:Nat):Int),aHV)))))=true then
  letB (fV.fn2 (x1,(x2,(x0,(((length x0:Nat):Int),aHV))))) fun v1=>
  match v1 with
  |.inl y=>
   some ((),((y.1,(y.2.1,(y.2.2.1,(y.2.2.2.1,(y.2.2.2.2.2.1,y.2.2.2.2.1))))),()))
  |.inr y=>
   some ((),((y.1,(y.2.1,((0:Int),((-1:Int),(([]:List bS),()))))),()))
 else
  none
theorem ok2(x1 x2:Int)(x3:List aC)(x4 x5 x6 x7 x8 x9:Int)(x10:Unit)(x11:List bS)(hp:pre2 (x1,(x2,(x3,(x4,(x5,(x6,(x7,(x8,(x9,(x10,(x11,())))))))))))=true):
 aX pre2 qY fn2 (x1,(x2,(x3,(x4,(x5,(x6,(x7,(x8,(x9,(x10,(x11,()))))))))))) (jX x1 x2 x3 x4 x5 x6 x7 x8 x9 x10 x11):=by
 simp only[pre2,Zb,Za] at hp
 obtain⟨hs,rfl,h1,h2⟩:=hp
 have hm:=rB.1 hs
 unfold jX
 by_cases hlt:x5<(x3.length:Int)
 . have hn:x5.toNat<x3.length:=by omega
   have e1:=Zn hn
   rw[dR hn,lN (n:=x5+1) (by omega) (by omega)]
   have nxt:kT x1 x2 x3[x5.toNat]=false->aX pre2 qY fn2 (x1,(x2,(x3,((x3.length:Int),(x5,(x6,(x7,(x8,(x9,(x10,(x11,()))))))))))) (some (.inl (x1,(x2,(x3,((x3.length:Int),(x5+1,(x6,(x7,(x8,(x9,(x10,(x11,()))))))))))))):=by
    intro hk
    refine⟨?_,by simp only[qY];omega,?_⟩
    . simp only[pre2,Zb,Za];exact⟨hs,trivial,by omega,by omega⟩
    . simp only[fn2]
      rw[e1,List.find?_cons,hk,show(x5+1).toNat=x5.toNat+1 by omega]
   refine bU (Zd hlt) (bU (Zd h1) (bU (Zd hlt) ?_))
   by_cases a:x3[x5.toNat].1=x1
   . refine bU (Zd a) ?_
     by_cases b:x3[x5.toNat].2.1=x2
     . refine bU (Zd b) (bU (show aR.pre _=true from bJ.2 (hm.2 _ (List.getElem_mem hn))) ?_)
       show _=fn2 _
       simp only[fn2]
       rw[e1,List.find?_cons,show kT x1 x2 x3[x5.toNat]=true by simp[kT,a,b]]
       rfl
     . exact dJ (by rw[Za];exact b) (nxt (by simp[kT,b]))
   . exact dJ (by rw[Za];exact a) (nxt (by simp[kT,a]))
 . refine dJ (by rw[Za];exact hlt) ?_
   show _=fn2 _
   simp only[fn2]
   rw[Zt (by omega)];rfl
def pre(xs:List aC)(_ _:Int):Bool:=uY xs
theorem eq(x0:List aC)(x1 x2:Int)(_:wf x0 x1 x2)(hp:pre x0 x1 x2=true):aQ x0 x1 x2=some ((),(jS x0 x1 x2,())):=by
 have hs:uY x0=true:=hp
 unfold aQ jS
 refine bO (show pre2 _=true by simp only[pre2,Zb,Za];exact⟨hs,trivial,by omega,by omega⟩) (eK ?_)
 simp only[fn2,Int.toNat_zero,List.drop_zero]
 cases x0.find? (kT x1 x2)<;>rfl
end fV
abbrev cQ:aC->Int->Int->Int×Int:=cN
namespace cQ
abbrev S12:Type:=(Int×((List bS)×bS))
abbrev O12:Type:=(bS⊕Unit)
def pre12:S12->Bool:=fun(_,x2,x3,x4,_)=>bQ x2&&(decide (x3=(x2.length:Int))&&(decide (0<=x4)&&decide (x4<=(x2.length:Int))))
def aFW:S12->Nat:=fun(_,x2,_,x4,_)=>x2.length-x4.toNat
def fn12:S12->O12:=fun(x1,x2,_,x4,_)=>match(x2.drop x4.toNat).find? (fun x=>decide (x.1=x1)) with
 |some x=>.inl (1,x.2)
 |none=>.inr ()
noncomputable def aBI(x1:Int)(x2:(List bS))(x3:Int)(x4:Int):Option ((Int×((List bS)×bS))⊕(bS⊕Unit)):=
 if(decide (x4<x3))=true then
 if(decide ((0:Int)<=x4))=true then
 if(decide (x4<((length x2:Nat):Int)))=true then
 if(decide ((List.getD x2 (Int.toNat x4) pV).1=x1))=true then
 some (.inr (.inl ((1:Int),(List.getD x2 (Int.toNat x4) pV).2)))
 else
 some (.inl (x1,(x2,(x3,((wrap .i64 (x4+(1:Int))),())))))
 else
 none
 else
 none
 else
 some (.inr (.inr ()))
abbrev wf(x0:aC)(x1:Int)(x2:Int):Prop:=iM [(.val wQ .f),(.val (.int .i64) .f),(.val (.int .i64) .f)] (x0,(x1,(x2,())))
noncomputable def aQ(x0:aC)(x1:Int)(x2:Int):Option (Unit×bS):=
 if(decide (x1<x0.2.2.1))=true then
  some ((),((4:Int),((0:Int),())))
 else
  if(decide (x0.2.2.1<x1))=true then
   if(decide (x2=(0:Int)))=true then
    some ((),pV)
   else
    if(decide (x0.2.2.1<x1))=true then
     some ((),((3:Int),((0:Int),())))
    else
     if(decide (x0.2.2.2.1<x2))=true then
      if(decide ((wrap .i64 (x2-(1:Int)))=x0.2.2.2.1))=true then
       some ((),pV)
      else
       if(decide (x0.2.2.2.1<x2))=true then
        some ((),((3:Int),((0:Int),())))
       else
        if(cQ.pre12 (x2,(x0.2.2.2.2.1,(((length x0.2.2.2.2.1:Nat):Int),((0:Int),())))))=true then
         letB (cQ.fn12 (x2,(x0.2.2.2.2.1,(((length x0.2.2.2.2.1:Nat):Int),((0:Int),()))))) fun v1=>
         match v1 with
         |.inl y=>
          some ((),y)
         |.inr y=>
          some ((),((2:Int),((0:Int),())))
        else
         none
     else
      if(decide (x0.2.2.2.1<x2))=true then
       some ((),((3:Int),((0:Int),())))
      else
       if(cQ.pre12 (x2,(x0.2.2.2.2.1,(((length x0.2.2.2.2.1:Nat):Int),((0:Int),())))))=true then
        letB (cQ.fn12 (x2,(x0.2.2.2.2.1,(((length x0.2.2.2.2.1:Nat):Int),((0:Int),()))))) fun v2=>
        match v2 with
        |.inl y=>
         some ((),y)
        |.inr y=>
         some ((),((2:Int),((0:Int),())))
       else
        none
  else
   if(decide (x0.2.2.1<x1))=true then
    some ((),((3:Int),((0:Int),())))
   else
    if(decide (x0.2.2.2.1<x2))=true then
     if(decide ((wrap .i64 (x2-(1:Int)))=x0.2.2.2.1))=true then
      some ((),pV)
     else
      if(decide (x0.2.2.2.1<x2))=true then
       some ((),((3:Int),((0:Int),())))
      else
       if(cQ.pre12 (x2,(x0.2.2.2.2.1,(((length x0.2.2.2.2.1:Nat):Int),((0:Int),())))))=true then
        letB (cQ.fn12 (x2,(x0.2.2.2.2.1,(((length x0.2.2.2.2.1:Nat):Int),((0:Int),()))))) fun v3=>
        match v3 with
        |.inl y=>
         some ((),y)
        |.inr y=>
         some ((),((2:Int),((0:Int),())))
       else
        none
    else
     if(decide (x0.2.2.2.1<x2))=true then
      some ((),((3:Int),((0:Int),())))
     else
      if(cQ.pre12 (x2,(x0.2.2.2.2.1,(((length x0.2.2.2.2.1:Nat):Int),((0:Int),())))))=true then
       letB (cQ.fn12 (x2,(x0.2.2.2.2.1,(((length x0.2.2.2.2.1:Nat):Int),((0:Int),()))))) fun v4=>
       match v4 with
       |.inl y=>
        some ((),y)
       |.inr y=>
        some ((),((2:Int),((0:Int),())))
      else
       none
theorem aKg(x1:Int)(x2:List bS)(x3 x4:Int)(hp:pre12 (x1,(x2,(x3,(x4,()))))=true):aX pre12 aFW fn12 (x1,(x2,(x3,(x4,())))) (aBI x1 x2 x3 x4):=by
 simp only[pre12,Zb,Za] at hp
 obtain⟨hs,rfl,h1,h2⟩:=hp
 have hs':=bJ.1 hs
 unfold aBI
 by_cases hlt:x4<(x2.length:Int)
 . have hn:x4.toNat<x2.length:=by omega
   have e1:=Zn hn
   refine bU (Zd hlt) (bU (Zd h1) (bU (Zd hlt) ?_))
   rw[dR hn,lN (n:=x4+1) (by omega) (by omega)]
   by_cases c:x2[x4.toNat].1=x1
   . refine bU (Zd c) ?_
     simp only[aX,fn12]
     rw[e1,List.find?_cons,Zd c]
   . refine dJ (by rw[Za];exact c) ⟨?_,by simp only[aFW];omega,?_⟩
     . simp only[pre12,Zb,Za];exact⟨hs,trivial,by omega,by omega⟩
     . simp only[fn12]
       rw[e1,List.find?_cons,decide_eq_false c,show(x4+1).toNat=x4.toNat+1 by omega]
 . refine dJ (by rw[Za];exact hlt) ?_
   simp only[aX,fn12]
   rw[Zt (by omega)];rfl
def pre(m:aC)(_ _:Int):Bool:=bQ m.2.2.2.2.1
theorem eq(x0:aC)(x1 x2:Int)(_:wf x0 x1 x2)(hp:pre x0 x1 x2=true):aQ x0 x1 x2=some ((),((cN x0 x1 x2).1,((cN x0 x1 x2).2,()))):=by
 have hs:bQ x0.2.2.2.2.1=true:=hp
 have q:pre12 (x2,(x0.2.2.2.2.1,((x0.2.2.2.2.1.length:Int),((0:Int),()))))=true:=by
  simp only[pre12,Zb,Za];exact⟨hs,trivial,by omega,by omega⟩
 unfold aQ cN
 by_cases c1:x1<x0.2.2.1
 . rw[if_pos c1];exact bO (Zd c1) rfl
 rw[if_neg c1]
 refine dC (by rw[Za];exact c1) ?_
 by_cases c2:x0.2.2.1<x1
 . rw[if_pos c2]
   refine bO (Zd c2) ?_
   by_cases c3:x2=0
   . rw[if_pos c3];exact bO (Zd c3) rfl
   . rw[if_neg c3];exact dC (by rw[Za];exact c3) (bO (Zd c2) rfl)
 rw[if_neg c2]
 refine dC (by rw[Za];exact c2) (dC (by rw[Za];exact c2) ?_)
 by_cases c4:x0.2.2.2.1<x2
 . rw[if_pos c4]
   refine bO (Zd c4) ?_
   by_cases c5:wrap .i64 (x2-1)=x0.2.2.2.1
   . rw[if_pos c5];exact bO (Zd c5) rfl
   . rw[if_neg c5];exact dC (by rw[Za];exact c5) (bO (Zd c4) rfl)
 rw[if_neg c4]
 refine dC (by rw[Za];exact c4) (dC (by rw[Za];exact c4) (bO q (eK ?_)))
 simp only[fn12,Int.toNat_zero,List.drop_zero]
 cases x0.2.2.2.2.1.find? (fun x=>decide (x.1=x2))<;>rfl
end cQ
abbrev jD:bW->Int->aV×Int:=jA
namespace jD
abbrev S4:Type:=(Int×((List aV)×(Int×(Int×(aV×Unit)))))
abbrev O4:Type:=((Int×(aV×Unit))⊕(aV×Unit))
def pre4:S4->Bool:=fun(_,x2,x3,x4,_)=>bQ x2&&(decide (x3=(x2.length:Int))&&(decide (0<=x4)&&decide (x4<=(x2.length:Int))))
def kU:S4->Nat:=fun(_,x2,_,x4,_)=>x2.length-x4.toNat
def fn4:S4->O4:=fun(x1,x2,_,x4,x5,_)=>match(x2.drop x4.toNat).find? (fun it=>decide (x1<=it.1)) with
 |some it=>.inl (0,(it,()))
 |none=>.inr (x5,())
noncomputable def eO(x1:Int)(x2:(List aV))(x3:Int)(x4:Int)(x5:aV):Option ((Int×((List aV)×(Int×(Int×(aV×Unit)))))⊕((Int×(aV×Unit))⊕(aV×Unit))):=
 if(decide (x4<x3))=true then
 if(decide ((0:Int)<=x4))=true then
 if(decide (x4<((length x2:Nat):Int)))=true then
 if(decide (x1<=(List.getD x2 (Int.toNat x4) kH).1))=true then
 some (.inr (.inl ((0:Int),((List.getD x2 (Int.toNat x4) kH),()))))
 else
 some (.inl (x1,(x2,(x3,((wrap .i64 (x4+(1:Int))),(x5,()))))))
 else
 none
 else
 none
 else
 some (.inr (.inr (x5,())))
abbrev wf(x0:bW)(x1:Int):Prop:=iM [(.val tK .f),(.val (.int .i64) .f)] (x0,(x1,()))
noncomputable def aQ(x0:bW)(x1:Int):Option (Unit×(aV×(Int×Unit))):=
 if(decide (x1<x0.1))=true then
  some ((),(kH,((1:Int),())))
 else
  if(jD.pre4 (x1,(x0.2.2.1,(((length x0.2.2.1:Nat):Int),((0:Int),(kH,()))))))=true then
   letB (jD.fn4 (x1,(x0.2.2.1,(((length x0.2.2.1:Nat):Int),((0:Int),(kH,())))))) fun v1=>
   match v1 with
   |.inl y=>
    some ((),(y.2.1,(y.1,())))
   |.inr y=>
    some ((),(kH,((2:Int),())))
  else
   none
theorem vZ(x1:Int)(x2:List aV)(x3 x4:Int)(x5:aV)(hp:pre4 (x1,(x2,(x3,(x4,(x5,())))))=true):aX pre4 kU fn4 (x1,(x2,(x3,(x4,(x5,()))))) (eO x1 x2 x3 x4 x5):=by
 simp only[pre4,Zb,Za] at hp
 obtain⟨hs,rfl,h1,h2⟩:=hp
 have hs':=bJ.1 hs
 unfold eO
 by_cases hlt:x4<(x2.length:Int)
 . have hn:x4.toNat<x2.length:=by omega
   have e1:=Zn hn
   refine bU (Zd hlt) (bU (Zd h1) (bU (Zd hlt) ?_))
   rw[dR hn,lN (n:=x4+1) (by omega) (by omega)]
   by_cases c:x1<=x2[x4.toNat].1
   . refine bU (Zd c) ?_
     simp only[aX,fn4]
     rw[e1,List.find?_cons,Zd c]
   . refine dJ (by rw[Za];exact c) ⟨?_,by simp only[kU];omega,?_⟩
     . simp only[pre4,Zb,Za];exact⟨hs,trivial,by omega,by omega⟩
     . simp only[fn4]
       rw[e1,List.find?_cons,decide_eq_false c,show(x4+1).toNat=x4.toNat+1 by omega]
 . refine dJ (by rw[Za];exact hlt) ?_
   simp only[aX,fn4]
   rw[Zt (by omega)];rfl
def pre(x:bW)(_:Int):Bool:=bQ x.2.2.1
theorem eq(x0:bW)(x1:Int)(_:wf x0 x1)(hp:pre x0 x1=true):aQ x0 x1=some ((),((jA x0 x1).1,((jA x0 x1).2,()))):=by
 have hs:bQ x0.2.2.1=true:=hp
 unfold aQ jA
 by_cases c1:x1<x0.1
 . rw[if_pos c1];exact bO (Zd c1) rfl
 rw[if_neg c1]
 refine dC (by rw[Za];exact c1) (bO (show pre4 _=true by simp only[pre4,Zb,Za];exact⟨hs,trivial,by omega,by omega⟩) (eK ?_))
 simp only[fn4,Int.toNat_zero,List.drop_zero]
 cases x0.2.2.1.find? (fun it=>decide (x1<=it.1))<;>rfl
end jD
abbrev jY:bW->List UInt8->List UInt8->Int->Int->bW×(Int×Bool):=mF
namespace jY
def pre(x:bW)(_ _:List UInt8)(_ _:Int):Bool:=aFf x.2.2.1
abbrev wf(x0:bW)(x1:(List UInt8))(x2:(List UInt8))(x3:Int)(x4:Int):Prop:=iM [(.val tK .f),(.val .str .f),(.val .str .f),(.val (.int .i64) .f),(.val (.int .i64) .f)] (x0,(x1,(x2,(x3,(x4,())))))
noncomputable def aQ(x0:bW)(x1:(List UInt8))(x2:(List UInt8))(x3:Int)(x4:Int):Option (Unit×(bW×(Int×(Bool×Unit)))):=
 if(bA.pre x0)=true then
 letB (bA x0) fun v1=>
 if(decide (length v1.2.2.1+length ((x0.2.1,(x1,(x2,(x3,(x4,())))))::([]:List aV))<=gO))=true then
 if(dN.pre x0)=true then
 letB (fI x0) fun v2=>
 if(!v2)=true then
 if(bA.pre x0)=true then
 some ((),(v1,((0:Int),(false,()))))
 else
 none
 else
 if(dN.pre (v1.1,((wrap .i64 (v1.2.1+(1:Int))),((List.append v1.2.2.1 ((x0.2.1,(x1,(x2,(x3,(x4,())))))::([]:List aV))),v1.2.2.2))))=true then
 letB (fI (v1.1,((wrap .i64 (v1.2.1+(1:Int))),((List.append v1.2.2.1 ((x0.2.1,(x1,(x2,(x3,(x4,())))))::([]:List aV))),v1.2.2.2)))) fun v3=>
 if(!v3)=true then
 if(bA.pre x0)=true then
 some ((),(v1,((0:Int),(false,()))))
 else
 none
 else
 some ((),((v1.1,((wrap .i64 (v1.2.1+(1:Int))),((List.append v1.2.2.1 ((x0.2.1,(x1,(x2,(x3,(x4,())))))::([]:List aV))),v1.2.2.2))),(x0.2.1,(true,()))))
 else
 none
 else
 none
 else
 none
 else
 none
theorem eq(x0:bW)(x1 x2:List UInt8)(x3 x4:Int)(_:wf x0 x1 x2 x3 x4)(hp:pre x0 x1 x2 x3 x4=true):aQ x0 x1 x2 x3 x4=some ((),((mF x0 x1 x2 x3 x4).1,((mF x0 x1 x2 x3 x4).2.1,((mF x0 x1 x2 x3 x4).2.2,())))):=by
 have hs:aFf x0.2.2.1=true:=hp
 have hs':=zO.1 hs
 have h0:=aBP hs
 have hn:dN.pre (newRow x0 x1 x2 x3 x4)=true:=by
  show bQ (List.append x0.2.2.1 _)=true
  rw[bJ,List.append_eq,Zf,Zg,Zh];omega
 unfold aQ
 refine bO (show bA.pre x0=true from h0) (eK ?_)
 rw[show bA x0=x0 from rfl]
 refine bO (by simp only[Za,Zg,Zh,gO];exact Nat.le_trans (Nat.add_le_add_right hs' 1) (by decide)) (bO (show dN.pre x0=true from h0) (eK ?_))
 cases c:fI x0
 . rw[show mF x0 x1 x2 x3 x4=(x0,((0:Int),false)) from if_neg (by rw[c];simp)]
   exact bO rfl (bO (show bA.pre x0=true from h0) rfl)
 refine dC (by decide) (bO hn (eK ?_))
 show(if(!fI (newRow x0 x1 x2 x3 x4))=true then _ else _)=_
 cases d:fI (newRow x0 x1 x2 x3 x4)
 . rw[show mF x0 x1 x2 x3 x4=(x0,((0:Int),false)) from if_neg (by rw[c,d];simp)]
   exact bO rfl (bO (show bA.pre x0=true from h0) rfl)
 . rw[show mF x0 x1 x2 x3 x4=_ from if_pos (by rw[c,d];rfl)]
   rfl
end jY
def aGa(n w:Int):Int:=if decide (wrap .i64 (n-(if decide (w<(0:Int))=true then(0:Int) else w))<(0:Int))=true then(0:Int) else wrap .i64 (n-(if decide (w<(0:Int))=true then(0:Int) else w))
theorem aHG{l:List bS}{w:Int}(hl:l.length<=16777217)(hw:-9223372036854775808<=w/\w<=9223372036854775807):
 0<=aGa (l.length:Int) w/\aGa (l.length:Int) w<=(l.length:Int)/\List.append ([]:List bS) (aW (aGa (l.length:Int) w).toNat ((l.length:Int)).toNat l)=oC w l:=by
 have e:(if decide (w<(0:Int))=true then(0:Int) else w)=pG w 0:=by
  unfold pG
  by_cases h:w<0
  . rw[if_pos (Zd h),if_neg (by omega)]
  . rw[if_neg (by rw[Za];exact h)]
    by_cases h2:0<w
    . rw[if_pos h2]
    . rw[if_neg h2];omega
 have h0:0<=pG w 0/\pG w 0<=9223372036854775807:=by unfold pG;split<;>omega
 have hc:aGa (l.length:Int) w=if(l.length:Int)-pG w 0<0 then 0 else(l.length:Int)-pG w 0:=by
  unfold aGa
  rw[e,lN (n:=(l.length:Int)-pG w 0) (by omega) (by omega)]
  simp only[Za]
 have h1:0<=aGa (l.length:Int) w/\aGa (l.length:Int) w<=(l.length:Int):=by rw[hc];split<;>omega
 refine⟨h1.1,h1.2,?_⟩
 rw[yR h1.1]
 unfold oC
 congr 1
 rw[hc]
 split<;>omega
abbrev jK:aC->Int->Int->Int->Int->aC:=iP
namespace jK
def pre(m:aC)(_ _ _ _:Int):Bool:=bQ m.2.2.2.2.1
abbrev wf(x0:aC)(x1:Int)(x2:Int)(x3:Int)(x4:Int):Prop:=iM [(.val wQ .f),(.val (.int .i64) .f),(.val (.int .i64) .f),(.val (.int .i64) .f),(.val (.int .i64) .f)] (x0,(x1,(x2,(x3,(x4,())))))
noncomputable def aQ(x0:aC)(x1:Int)(x2:Int)(x3:Int)(x4:Int):Option (Unit×(aC×Unit)):=
 if(aR.pre x0)=true then
 if(cQ.pre x0 x2 x3)=true then
 letB (cN x0 x2 x3) fun v1=>
 if(!(decide (v1.1=(0:Int))))=true then
 letB (aR x0) fun v2=>
 some ((),(v2,()))
 else
 if(decide (x0.2.2.1<x2))=true then
 if(decide (length ([]:List bS)+length ((x3,(x4,()))::([]:List bS))<=gO))=true then
 if(decide ((0:Int)<=(if(decide ((wrap .i64 (((length (List.append ([]:List bS) ((x3,(x4,()))::([]:List bS))):Nat):Int)-(if(decide (x1<(0:Int)))=true then(0:Int) else x1)))<(0:Int)))=true then(0:Int) else(wrap .i64 (((length (List.append ([]:List bS) ((x3,(x4,()))::([]:List bS))):Nat):Int)-(if(decide (x1<(0:Int)))=true then(0:Int) else x1))))))=true then
 if(decide ((if(decide ((wrap .i64 (((length (List.append ([]:List bS) ((x3,(x4,()))::([]:List bS))):Nat):Int)-(if(decide (x1<(0:Int)))=true then(0:Int) else x1)))<(0:Int)))=true then(0:Int) else(wrap .i64 (((length (List.append ([]:List bS) ((x3,(x4,()))::([]:List bS))):Nat):Int)-(if(decide (x1<(0:Int)))=true then(0:Int) else x1))))<=((length (List.append ([]:List bS) ((x3,(x4,()))::([]:List bS))):Nat):Int)))=true then
 if(decide (((length (List.append ([]:List bS) ((x3,(x4,()))::([]:List bS))):Nat):Int)<=((length (List.append ([]:List bS) ((x3,(x4,()))::([]:List bS))):Nat):Int)))=true then
 if(decide (length ([]:List bS)+length (aW (Int.toNat (if(decide ((wrap .i64 (((length (List.append ([]:List bS) ((x3,(x4,()))::([]:List bS))):Nat):Int)-(if(decide (x1<(0:Int)))=true then(0:Int) else x1)))<(0:Int)))=true then(0:Int) else(wrap .i64 (((length (List.append ([]:List bS) ((x3,(x4,()))::([]:List bS))):Nat):Int)-(if(decide (x1<(0:Int)))=true then(0:Int) else x1))))) (Int.toNat ((length (List.append ([]:List bS) ((x3,(x4,()))::([]:List bS))):Nat):Int)) (List.append ([]:List bS) ((x3,(x4,()))::([]:List bS))))<=gO))=true then
 letB (aR x0) fun v3=>
 some ((),((v3.1,(v3.2.1,(x2,(x3,((List.append ([]:List bS) (aW (Int.toNat (if(decide ((wrap .i64 (((length (List.append ([]:List bS) ((x3,(x4,()))::([]:List bS))):Nat):Int)-(if(decide (x1<(0:Int)))=true then(0:Int) else x1)))<(0:Int)))=true then(0:Int) else(wrap .i64 (((length (List.append ([]:List bS) ((x3,(x4,()))::([]:List bS))):Nat):Int)-(if(decide (x1<(0:Int)))=true then(0:Int) else x1))))) (Int.toNat ((length (List.append ([]:List bS) ((x3,(x4,()))::([]:List bS))):Nat):Int)) (List.append ([]:List bS) ((x3,(x4,()))::([]:List bS))))),v3.2.2.2.2.2))))),()))
 else
 none
 else
 none
 else
 none
 else
 none
 else
 none
 else
 letB (aR x0) fun v4=>
 if(decide (length v4.2.2.2.2.1+length ((x3,(x4,()))::([]:List bS))<=gO))=true then
 if(decide ((0:Int)<=(if(decide ((wrap .i64 (((length (List.append v4.2.2.2.2.1 ((x3,(x4,()))::([]:List bS))):Nat):Int)-(if(decide (x1<(0:Int)))=true then(0:Int) else x1)))<(0:Int)))=true then(0:Int) else(wrap .i64 (((length (List.append v4.2.2.2.2.1 ((x3,(x4,()))::([]:List bS))):Nat):Int)-(if(decide (x1<(0:Int)))=true then(0:Int) else x1))))))=true then
 if(decide ((if(decide ((wrap .i64 (((length (List.append v4.2.2.2.2.1 ((x3,(x4,()))::([]:List bS))):Nat):Int)-(if(decide (x1<(0:Int)))=true then(0:Int) else x1)))<(0:Int)))=true then(0:Int) else(wrap .i64 (((length (List.append v4.2.2.2.2.1 ((x3,(x4,()))::([]:List bS))):Nat):Int)-(if(decide (x1<(0:Int)))=true then(0:Int) else x1))))<=((length (List.append v4.2.2.2.2.1 ((x3,(x4,()))::([]:List bS))):Nat):Int)))=true then
 if(decide (((length (List.append v4.2.2.2.2.1 ((x3,(x4,()))::([]:List bS))):Nat):Int)<=((length (List.append v4.2.2.2.2.1 ((x3,(x4,()))::([]:List bS))):Nat):Int)))=true then
 if(decide (length ([]:List bS)+length (aW (Int.toNat (if(decide ((wrap .i64 (((length (List.append v4.2.2.2.2.1 ((x3,(x4,()))::([]:List bS))):Nat):Int)-(if(decide (x1<(0:Int)))=true then(0:Int) else x1)))<(0:Int)))=true then(0:Int) else(wrap .i64 (((length (List.append v4.2.2.2.2.1 ((x3,(x4,()))::([]:List bS))):Nat):Int)-(if(decide (x1<(0:Int)))=true then(0:Int) else x1))))) (Int.toNat ((length (List.append v4.2.2.2.2.1 ((x3,(x4,()))::([]:List bS))):Nat):Int)) (List.append v4.2.2.2.2.1 ((x3,(x4,()))::([]:List bS))))<=gO))=true then
 some ((),((v4.1,(v4.2.1,(x2,(x3,((List.append ([]:List bS) (aW (Int.toNat (if(decide ((wrap .i64 (((length (List.append v4.2.2.2.2.1 ((x3,(x4,()))::([]:List bS))):Nat):Int)-(if(decide (x1<(0:Int)))=true then(0:Int) else x1)))<(0:Int)))=true then(0:Int) else(wrap .i64 (((length (List.append v4.2.2.2.2.1 ((x3,(x4,()))::([]:List bS))):Nat):Int)-(if(decide (x1<(0:Int)))=true then(0:Int) else x1))))) (Int.toNat ((length (List.append v4.2.2.2.2.1 ((x3,(x4,()))::([]:List bS))):Nat):Int)) (List.append v4.2.2.2.2.1 ((x3,(x4,()))::([]:List bS))))),v4.2.2.2.2.2))))),()))
 else
 none
 else
 none
 else
 none
 else
 none
 else
 none
 else
 none
 else
 none
theorem eq(x0:aC)(x1 x2 x3 x4:Int)(hw:wf x0 x1 x2 x3 x4)(hp:pre x0 x1 x2 x3 x4=true):aQ x0 x1 x2 x3 x4=some ((),(iP x0 x1 x2 x3 x4,())):=by
 have hs:bQ x0.2.2.2.2.1=true:=hp
 have hs':=bJ.1 hs
 have hx1:-9223372036854775808<=x1/\x1<=9223372036854775807:=aJZ.1 hw.2.1
 have lim1:∀l:List bS,l.length<=16777216->decide (l.length+([(x3,(x4,()))]:List bS).length<=gO)=true:=fun l h=>by
  simp only[Za,Zg,Zh,gO];omega
 have lim2:∀(l:List bS) (k:Int),l.length<=16777217->decide (([]:List bS).length+(aW k.toNat ((l.length:Int)).toNat l).length<=gO)=true:=fun l k h=>by
  simp only[Za,Zh,aW,Zr,Zs,gO];omega
 unfold aQ
 rw[show aR x0=x0 from rfl]
 refine bO (show aR.pre x0=true from hs) (bO (show cQ.pre x0 x2 x3=true from hs) (eK ?_))
 by_cases c1:(cN x0 x2 x3).1=0
 case neg=>
  rw[show iP x0 x1 x2 x3 x4=x0 from if_neg c1]
  exact bO (by simp only[Bool.not_eq_true',Zv];exact c1) (eK rfl)
 refine dC (by simp only[Bool.not_eq_true',Zv,Decidable.not_not];exact c1) ?_
 rw[show iP x0 x1 x2 x3 x4=_ from if_pos c1]
 by_cases c2:x0.2.2.1<x2
 . rw[if_pos c2]
   obtain⟨k1,k2,k3⟩:=aHG (l:=List.append ([]:List bS) [(x3,(x4,()))]) (w:=x1) (by simp) hx1
   refine bO (Zd c2) (bO (lim1 [] (by simp)) (bO (Zd k1) (bO (Zd k2) (bO (Zd (Int.le_refl _)) (bO (lim2 _ _ (by simp)) (eK ?_))))))
   exact congrArg (fun t=>some ((),((x0.1,(x0.2.1,(x2,(x3,(t,()))))),()))) k3
 . rw[if_neg c2]
   have hl:(List.append x0.2.2.2.2.1 [(x3,(x4,()))]).length<=16777217:=by rw[List.append_eq,Zf,Zg,Zh];omega
   obtain⟨k1,k2,k3⟩:=aHG (l:=List.append x0.2.2.2.2.1 [(x3,(x4,()))]) (w:=x1) hl hx1
   refine dC (by rw[Za];exact c2) (eK (bO (lim1 _ hs') (bO (Zd k1) (bO (Zd k2) (bO (Zd (Int.le_refl _)) (bO (lim2 _ _ hl) ?_))))))
   exact congrArg (fun t=>some ((),((x0.1,(x0.2.1,(x2,(x3,(t,()))))),()))) k3
end jK
abbrev fZ:List aC->aC->List aC:=nB
namespace fZ
abbrev S4:Type:=(Bool×(Int×(Int×(aC×((List aC)×(Nat×yK))))))
abbrev O4:Type:=(Bool×(aC×yK))
def pre4:S4->Bool:=fun(_,x2,x3,x4,x5,x6,x7,_)=>decide (x2=(x6:Int))&&(decide (x6<=16777216)&&(bQ x4.2.2.2.2.1&&(decide (0<=x3)&&(decide (x3.toNat+x7.length=x6)&&decide (x5.length<=2*x3.toNat)))))
def kU:S4->Nat:=fun(_,_,_,_,_,_,x7,_)=>x7.length
def Q4(s:S4)(o:O4):Prop:=match s,o with
 |(x1,_,_,x4,x5,x6,x7,_),(o1,o2,o3,_)=>o2=x4/\o3++cond o1 [] [x4]=x5++gV x4 x1 x7/\o3.length<=2*x6
noncomputable def eO(x1:Bool)(x2:Int)(x3:Int)(x4:aC)(x5:(List aC))(x6:Nat)(x7:(List aC)):Option ((Bool×(Int×(Int×(aC×((List aC)×(Nat×yK))))))⊕(Bool×(aC×yK))):=
 if(decide (x3<x2))=true then
 if(decide ((0:Int)<=x3))=true then
 if(decide (x3<((x6:Nat):Int)))=true then
 if(decide ((Int.toNat x3)+length x7=x6))=true then
 if(decide ((0:Int)<((length x7:Nat):Int)))=true then
 if(decide ((List.getD x7 0 kK).1=x4.1))=true then
 if(!x1)=true then
 if(decide ((List.getD x7 0 kK).2.1=x4.2.1))=true then
 if(aR.pre x4)=true then
 letB (aR x4) fun v1=>
 if(decide (length x5+length (v1::([]:List aC))<=gO))=true then
 if(!(decide ((List.getD x7 0 kK).2.1=x4.2.1)))=true then
 if(decide (length (List.append x5 (v1::([]:List aC)))+length ((List.getD x7 0 kK)::([]:List aC))<=gO))=true then
 some (.inl (true,(x2,((wrap .i64 (x3+(1:Int))),(x4,((List.append (List.append x5 (v1::([]:List aC))) ((List.getD x7 0 kK)::([]:List aC))),(x6,((List.tail x7),()))))))))
 else
 none
 else
 some (.inl (true,(x2,((wrap .i64 (x3+(1:Int))),(x4,((List.append x5 (v1::([]:List aC))),(x6,((List.tail x7),()))))))))
 else
 none
 else
 none
 else
 if(decide (x4.1<(List.getD x7 0 kK).1))=true then
 if(aR.pre x4)=true then
 letB (aR x4) fun v2=>
 if(decide (length x5+length (v2::([]:List aC))<=gO))=true then
 if(!(decide ((List.getD x7 0 kK).2.1=x4.2.1)))=true then
 if(decide (length (List.append x5 (v2::([]:List aC)))+length ((List.getD x7 0 kK)::([]:List aC))<=gO))=true then
 some (.inl (true,(x2,((wrap .i64 (x3+(1:Int))),(x4,((List.append (List.append x5 (v2::([]:List aC))) ((List.getD x7 0 kK)::([]:List aC))),(x6,((List.tail x7),()))))))))
 else
 none
 else
 some (.inl (true,(x2,((wrap .i64 (x3+(1:Int))),(x4,((List.append x5 (v2::([]:List aC))),(x6,((List.tail x7),()))))))))
 else
 none
 else
 none
 else
 if(decide ((List.getD x7 0 kK).1=x4.1))=true then
 if(decide (x4.2.1<(List.getD x7 0 kK).2.1))=true then
 if(aR.pre x4)=true then
 letB (aR x4) fun v3=>
 if(decide (length x5+length (v3::([]:List aC))<=gO))=true then
 if(!(decide ((List.getD x7 0 kK).2.1=x4.2.1)))=true then
 if(decide (length (List.append x5 (v3::([]:List aC)))+length ((List.getD x7 0 kK)::([]:List aC))<=gO))=true then
 some (.inl (true,(x2,((wrap .i64 (x3+(1:Int))),(x4,((List.append (List.append x5 (v3::([]:List aC))) ((List.getD x7 0 kK)::([]:List aC))),(x6,((List.tail x7),()))))))))
 else
 none
 else
 some (.inl (true,(x2,((wrap .i64 (x3+(1:Int))),(x4,((List.append x5 (v3::([]:List aC))),(x6,((List.tail x7),()))))))))
 else
 none
 else
 none
 else
 if(!(decide ((List.getD x7 0 kK).2.1=x4.2.1)))=true then
 if(decide (length x5+length ((List.getD x7 0 kK)::([]:List aC))<=gO))=true then
 some (.inl (x1,(x2,((wrap .i64 (x3+(1:Int))),(x4,((List.append x5 ((List.getD x7 0 kK)::([]:List aC))),(x6,((List.tail x7),()))))))))
 else
 none
 else
 some (.inl (x1,(x2,((wrap .i64 (x3+(1:Int))),(x4,(x5,(x6,((List.tail x7),()))))))))
 else
 if(!(decide ((List.getD x7 0 kK).2.1=x4.2.1)))=true then
 if(decide (length x5+length ((List.getD x7 0 kK)::([]:List aC))<=gO))=true then
 some (.inl (x1,(x2,((wrap .i64 (x3+(1:Int))),(x4,((List.append x5 ((List.getD x7 0 kK)::([]:List aC))),(x6,((List.tail x7),()))))))))
 else
 none
 else
 some (.inl (x1,(x2,((wrap .i64 (x3+(1:Int))),(x4,(x5,(x6,((List.tail x7),()))))))))
 else
 if(!(decide ((List.getD x7 0 kK).2.1=x4.2.1)))=true then
 if(decide (length x5+length ((List.getD x7 0 kK)::([]:List aC))<=gO))=true then
 some (.inl (x1,(x2,((wrap .i64 (x3+(1:Int))),(x4,((List.append x5 ((List.getD x7 0 kK)::([]:List aC))),(x6,((List.tail x7),()))))))))
 else
 none
 else
 some (.inl (x1,(x2,((wrap .i64 (x3+(1:Int))),(x4,(x5,(x6,((List.tail x7),()))))))))
 else
 if(!x1)=true then
 if(decide (x4.1<(List.getD x7 0 kK).1))=true then
 if(aR.pre x4)=true then
 letB (aR x4) fun v4=>
 if(decide (length x5+length (v4::([]:List aC))<=gO))=true then
 if(!false)=true then
 if(decide (length (List.append x5 (v4::([]:List aC)))+length ((List.getD x7 0 kK)::([]:List aC))<=gO))=true then
 some (.inl (true,(x2,((wrap .i64 (x3+(1:Int))),(x4,((List.append (List.append x5 (v4::([]:List aC))) ((List.getD x7 0 kK)::([]:List aC))),(x6,((List.tail x7),()))))))))
 else
 none
 else
 some (.inl (true,(x2,((wrap .i64 (x3+(1:Int))),(x4,((List.append x5 (v4::([]:List aC))),(x6,((List.tail x7),()))))))))
 else
 none
 else
 none
 else
 if(decide ((List.getD x7 0 kK).1=x4.1))=true then
 if(decide (x4.2.1<(List.getD x7 0 kK).2.1))=true then
 if(aR.pre x4)=true then
 letB (aR x4) fun v5=>
 if(decide (length x5+length (v5::([]:List aC))<=gO))=true then
 if(!false)=true then
 if(decide (length (List.append x5 (v5::([]:List aC)))+length ((List.getD x7 0 kK)::([]:List aC))<=gO))=true then
 some (.inl (true,(x2,((wrap .i64 (x3+(1:Int))),(x4,((List.append (List.append x5 (v5::([]:List aC))) ((List.getD x7 0 kK)::([]:List aC))),(x6,((List.tail x7),()))))))))
 else
 none
 else
 some (.inl (true,(x2,((wrap .i64 (x3+(1:Int))),(x4,((List.append x5 (v5::([]:List aC))),(x6,((List.tail x7),()))))))))
 else
 none
 else
 none
 else
 if(!false)=true then
 if(decide (length x5+length ((List.getD x7 0 kK)::([]:List aC))<=gO))=true then
 some (.inl (x1,(x2,((wrap .i64 (x3+(1:Int))),(x4,((List.append x5 ((List.getD x7 0 kK)::([]:List aC))),(x6,((List.tail x7),()))))))))
 else
 none
 else
 some (.inl (x1,(x2,((wrap .i64 (x3+(1:Int))),(x4,(x5,(x6,((List.tail x7),()))))))))
 else
 if(!false)=true then
 if(decide (length x5+length ((List.getD x7 0 kK)::([]:List aC))<=gO))=true then
 some (.inl (x1,(x2,((wrap .i64 (x3+(1:Int))),(x4,((List.append x5 ((List.getD x7 0 kK)::([]:List aC))),(x6,((List.tail x7),()))))))))
 else
 none
 else
 some (.inl (x1,(x2,((wrap .i64 (x3+(1:Int))),(x4,(x5,(x6,((List.tail x7),()))))))))
 else
 if(!false)=true then
 if(decide (length x5+length ((List.getD x7 0 kK)::([]:List aC))<=gO))=true then
 some (.inl (x1,(x2,((wrap .i64 (x3+(1:Int))),(x4,((List.append x5 ((List.getD x7 0 kK)::([]:List aC))),(x6,((List.tail x7),()))))))))
 else
 none
 else
 some (.inl (x1,(x2,((wrap .i64 (x3+(1:Int))),(x4,(x5,(x6,((List.tail x7),()))))))))
 else
 none
 else
 none
 else
 none
 else
 none
 else
 some (.inr (x1,(x4,(x5,()))))
theorem wp4:∀s,pre4 s=true->Wp ((fun(x:S4)=>eO x.1 x.2.1 x.2.2.1 x.2.2.2.1 x.2.2.2.2.1 x.2.2.2.2.2.1 x.2.2.2.2.2.2.1) s) (hJ pre4 kU Q4 s):=by
 rintro⟨x1,x2,x3,x4,x5,x6,x7,⟨⟩⟩ hp
 simp only[pre4,Zb,Za] at hp
 obtain⟨rfl,hs,hx,h1,h2,h3⟩:=hp
 show Wp (eO x1 (x6:Int) x3 x4 x5 x6 x7) _
 unfold eO
 cases hx7:x7 with
 |nil=>
  rw[hx7,Zh] at h2
  refine eG (by rw[Za];omega) (aH ⟨rfl,?_,by show x5.length<=2*x6;omega⟩)
  rfl
 |cons e r=>
  rw[<-hx7]
  have hge:x7.getD 0 kK=e:=by rw[hx7];rfl
  have htl:List.tail x7=r:=by rw[hx7];rfl
  have hlen:x7.length=r.length+1:=by rw[hx7];rfl
  rw[hge,htl,lN (n:=x3+1) (by omega) (by omega)]
  have cp1:aR.pre x4=true:=hx
  have nx:∀(p:Bool) (y:List aC),y.length<=2->gV x4 x1 x7=y++gV x4 p r->
   hJ pre4 kU Q4 (x1,(x6:Int),x3,x4,x5,x6,x7,()) (.inl (p,((x6:Int),((x3+1),(x4,(x5++y,(x6,(r,())))))))):=by
   intro p y hy he
   refine⟨?_,by simp only[kU];omega,?_⟩
   . simp only[pre4,Zb,Za,Zf]
     exact⟨trivial,hs,hx,by omega,by omega,by omega⟩
   . rintro⟨o1,o2,o3,⟨⟩⟩ ⟨q1,q2,q3⟩
     refine⟨q1,q2.trans ?_,q3⟩
     rw[he,Zk]
  have l1:∀a:aC,decide (x5.length+(a::([]:List aC)).length<=gO)=true:=fun a=>by
   simp only[Za,Zg,Zh,gO];omega
  have l2:∀a b:aC,decide ((List.append x5 (a::([]:List aC))).length+(b::([]:List aC)).length<=gO)=true:=fun a b=>by
   simp only[Za,List.append_eq,Zf,Zg,Zh,gO];omega
  have set1:kT x4.1 x4.2.1 e=true->x1=false->gV x4 x1 x7=[x4]++gV x4 true r:=by
   intro a b;rw[hx7,b];simp only[gV,a,cond_true,cond_false];rfl
  have set2:kT x4.1 x4.2.1 e=true->x1=true->gV x4 x1 x7=[]++gV x4 x1 r:=by
   intro a b;rw[hx7,b];simp only[gV,a,cond_true];rfl
  have set3:kT x4.1 x4.2.1 e=false->x1=false->oD e x4=true->gV x4 x1 x7=[x4,e]++gV x4 true r:=by
   intro a b c;rw[hx7,b];simp only[gV,a,c,cond_false,Bool.not_false,Bool.and_self,cond_true];rfl
  have set4:kT x4.1 x4.2.1 e=false->(!x1&&oD e x4)=false->gV x4 x1 x7=[e]++gV x4 x1 r:=by
   intro a b;rw[hx7];simp only[gV,a,b,cond_false];rfl
  have fA:∀{p:Bool},(!p)=true->p=false:=by intro p h;cases p<;>simp_all
  have fB:∀{p:Bool},¬(!p)=true->p=true:=by intro p h;cases p<;>simp_all
  have keep0:∀(_:gV x4 x1 x7=[]++gV x4 x1 r),hJ pre4 kU Q4 (x1,(x6:Int),x3,x4,x5,x6,x7,()) (.inl (x1,((x6:Int),((x3+1),(x4,(x5,(x6,(r,())))))))):=fun h=>by
   have:=nx x1 [] (by simp) h
   rwa [List.append_nil] at this
  have put2:∀(_:gV x4 x1 x7=[x4,e]++gV x4 true r),hJ pre4 kU Q4 (x1,(x6:Int),x3,x4,x5,x6,x7,()) (.inl (true,((x6:Int),((x3+1),(x4,(List.append (List.append x5 (x4::([]:List aC))) (e::([]:List aC)),(x6,(r,())))))))):=fun h=>by
   have:=nx true [x4,e] (by simp) h
   simpa using this
  refine aG (Zd (by omega)) (aG (Zd h1) (aG (Zd (by omega)) (aG (Zd h2) (aG (Zd (by omega)) (cF (fun a=>?_) fun a=>?_)))))
  . rw[Za] at a
    refine cF (fun c=>?_) fun c=>?_
    . refine cF (fun b=>?_) fun b=>?_
      . rw[Za] at b
        have hk:kT x4.1 x4.2.1 e=true:=by simp[kT,a,b]
        exact aG cp1 (bR (aG (l1 _) (eG (by simp[b]) (aH (nx true [x4] (by simp) (set1 hk (fA c)))))))
      . rw[Za] at b
        have hk:kT x4.1 x4.2.1 e=false:=by simp[kT,b]
        refine eG (by rw[Za];omega) (aG (Zd a) (cF (fun f=>?_) fun f=>?_))
        . rw[Za] at f
          exact aG cp1 (bR (aG (l1 _) (aG (by simp[b]) (aG (l2 _ _) (aH (put2 (set3 hk (fA c) (by simp[oD,a,f]))))))))
        . rw[Za] at f
          exact aG (by simp[b]) (aG (l1 _) (aH (nx x1 [e] (by simp) (set4 hk (by simp[oD,a,f])))))
    . refine cF (fun b=>?_) fun b=>?_
      . simp only[Bool.not_eq_true',Zv] at b
        exact aG (l1 _) (aH (nx x1 [e] (by simp) (set4 (by simp[kT,b]) (by rw[fB c];rfl))))
      . simp only[Bool.not_eq_true',Zv,Decidable.not_not] at b
        exact aH (keep0 (set2 (by simp[kT,a,b]) (fB c)))
  . rw[Za] at a
    have hk:kT x4.1 x4.2.1 e=false:=by simp[kT,a]
    refine cF (fun c=>?_) fun c=>?_
    . refine cF (fun d=>?_) fun d=>?_
      . rw[Za] at d
        exact aG cp1 (bR (aG (l1 _) (aG rfl (aG (l2 _ _) (aH (put2 (set3 hk (fA c) (by simp[oD,d]))))))))
      . rw[Za] at d
        exact eG (by rw[Za];exact a) (aG rfl (aG (l1 _) (aH (nx x1 [e] (by simp) (set4 hk (by simp[oD,a,d]))))))
    . exact aG rfl (aG (l1 _) (aH (nx x1 [e] (by simp) (set4 hk (by rw[fB c];rfl)))))
noncomputable def fn4:S4->O4:=zS (fun(x:S4)=>eO x.1 x.2.1 x.2.2.1 x.2.2.2.1 x.2.2.2.2.1 x.2.2.2.2.2.1 x.2.2.2.2.2.2.1) kU
theorem vZ(x1:Bool)(x2 x3:Int)(x4:aC)(x5:List aC)(x6:Nat)(x7:List aC)(hp:pre4 (x1,(x2,(x3,(x4,(x5,(x6,(x7,())))))))=true):aX pre4 kU fn4 (x1,(x2,(x3,(x4,(x5,(x6,(x7,()))))))) (eO x1 x2 x3 x4 x5 x6 x7):=oN wp4 hp
def pre(xs:List aC)(m:aC):Bool:=uY xs&&bQ m.2.2.2.2.1
abbrev wf(x0:(List aC))(x1:aC):Prop:=iM [(.val (.sl 0 wQ) .f),(.val wQ .f)] (x0,(x1,()))
noncomputable def aQ(x0:(List aC))(x1:aC):Option (Unit×yK):=
 if(cK.pre x0)=true then
 letB (cK x0) fun v1=>
 if(fZ.pre4 (false,(((length v1:Nat):Int),((0:Int),(x1,(([]:List aC),((length v1),(v1,()))))))))=true then
 letB (fZ.fn4 (false,(((length v1:Nat):Int),((0:Int),(x1,(([]:List aC),((length v1),(v1,())))))))) fun v2=>
 if(!v2.1)=true then
 if(aR.pre v2.2.1)=true then
 letB (aR v2.2.1) fun v3=>
 if(decide (length v2.2.2.1+length (v3::([]:List aC))<=gO))=true then
 some ((),((List.append v2.2.2.1 (v3::([]:List aC))),()))
 else
 none
 else
 none
 else
 some ((),v2.2.2)
 else
 none
 else
 none
theorem eq(x0:List aC)(x1:aC)(_:wf x0 x1)(hp:pre x0 x1=true):aQ x0 x1=some ((),(nB x0 x1,())):=by
 simp only[pre,Zb] at hp
 have hm:=rB.1 hp.1
 refine aCb ?_
 unfold aQ
 rw[show cK x0=x0 from rfl]
 have hq:pre4 (false,((x0.length:Int),((0:Int),(x1,(([]:List aC),(x0.length,(x0,())))))))=true:=by
  simp only[pre4,Zb,Za,Zh];exact⟨trivial,hm.1,hp.2,by omega,by simp,by omega⟩
 refine aG (show cK.pre x0=true from hp.1) (bR (aG hq (cW (rI wp4 hq:Q4 _ (fn4 _)) ?_)))
 rintro⟨o1,o2,o3,⟨⟩⟩ ⟨q1,q2,q3⟩
 have q1:o2=x1:=q1
 have q2:o3++cond o1 [] [x1]=nB x0 x1:=q2
 have q3:o3.length<=2*x0.length:=q3
 subst q1
 cases o1
 . refine aG rfl (aG (show aR.pre o2=true from hp.2) (bR (aG (by simp only[Za,Zg,Zh,gO];omega) (aH q2))))
 . refine eG Bool.false_ne_true (aH ?_)
   rw[<-q2]
   exact(List.append_nil _).symm
end fZ
def bH(xs:List aV)(p:(aV->Bool)×(aV->Bool)):Int:=lL p.2 xs 0
namespace bH
def pre(xs:List aV)(p:(aV->Bool)×(aV->Bool)):Bool:=xs.all p.1
def pre2:=qC (α:=aV)
def fn2:=aA3 (α:=aV)
def qY:=aDw (α:=aV)
noncomputable def jX(x1:(List aV))(x2:(aV->Bool))(x3:(aV->Bool))(x4:Int)(x5:Int):Option (((List aV)×((aV->Bool)×((aV->Bool)×bS)))⊕((Int×Unit)⊕Unit)):=
 if(decide (x5<x4))=true then
 if(decide ((0:Int)<=x5))=true then
 if(decide (x5<((length x1:Nat):Int)))=true then
 if(x2 (List.getD x1 (Int.toNat x5) kH))=true then
 if(x3 (List.getD x1 (Int.toNat x5) kH))=true then
 some (.inr (.inl (x5,())))
 else
 some (.inl (x1,(x2,(x3,(x4,((wrap .i64 (x5+(1:Int))),()))))))
 else
 none
 else
 none
 else
 none
 else
 some (.inr (.inr ()))
abbrev wf(x0:(List aV))(x1:((aV->Bool)×(aV->Bool))):Prop:=iM [(.val (.sl 0 aCE) .f),(.fn aCE .bool)] (x0,(x1,()))
noncomputable def aQ(x0:(List aV))(x1:((aV->Bool)×(aV->Bool))):Option aAC:=
 if(bH.pre2 (x0,(x1.1,(x1.2,(((length x0:Nat):Int),((0:Int),()))))))=true then
  letB (bH.fn2 (x0,(x1.1,(x1.2,(((length x0:Nat):Int),((0:Int),())))))) fun v1=>
  match v1 with
  |.inl y=>
   some ((),y)
  |.inr y=>
   some ((),((-1:Int),()))
 else
  none
theorem ok2(x1:List aV)(x2 x3:aV->Bool)(x4 x5:Int)(hp:pre2 (x1,(x2,(x3,(x4,(x5,())))))=true):aX pre2 qY fn2 (x1,(x2,(x3,(x4,(x5,()))))) (jX x1 x2 x3 x4 x5):=by
 unfold jX
 by_cases hlt:x5<x4
 . obtain⟨h1,h2,h3,h4,h5⟩:=aAk hp hlt kH
   simp only[hlt,h1,h2,h3,decide_true,if_true]
   split
   . rename_i h;exact h4 h
   . rename_i h;exact h5 h
 . simp only[hlt,decide_false,Zj,if_false]
   exact aBD hp hlt
theorem eq(x0:List aV)(x1:(aV->Bool)×(aV->Bool))(hw:wf x0 x1)(hp:pre x0 x1=true):aQ x0 x1=some ((),(bH x0 x1,())):=by
 have h1:x0.length<=maxLen:=hw.1.1
 unfold aQ
 rw[if_pos (show pre2 _=true by simp only[pre2,qC,Zb,Za];exact⟨h1,trivial,by omega,by simp,hp⟩)]
 exact aBE x0 x1
end bH
def cR(xs:List aV)(p:(aV->Bool)×(aV->Bool)):Bool:=xs.any p.2
namespace cR
def pre(xs:List aV)(p:(aV->Bool)×(aV->Bool)):Bool:=xs.all p.1
abbrev wf(x0:(List aV))(x1:((aV->Bool)×(aV->Bool))):Prop:=iM [(.val (.sl 0 aCE) .f),(.fn aCE .bool)] (x0,(x1,()))
noncomputable def aQ(x0:(List aV))(x1:((aV->Bool)×(aV->Bool))):Option mV:=
 if(bH.pre x0 x1)=true then
 letB (bH x0 x1) fun v1=>
 some ((),((decide ((0:Int)<=v1)),()))
 else
 none
theorem eq(x0:List aV)(x1:(aV->Bool)×(aV->Bool))(_:wf x0 x1)(hp:pre x0 x1=true):aQ x0 x1=some ((),(cR x0 x1,())):=by
 unfold aQ
 exact bO (show bH.pre _ _=true from hp) (congrArg (fun b=>some ((),(b,()))) (aCu x1.2 x0))
end cR
theorem aB4{α:Type}(p:α->Bool):(xs:List α)->(i:Int)->0<=i->(lL p xs i=-1->xs.filter (fun v=>!p v)=xs)/\
 (lL p xs i≠-1->i<=lL p xs i/\lL p xs i<i+xs.length/\xs.filter (fun v=>!p v)=xs.take (lL p xs i-i).toNat++(xs.drop ((lL p xs i-i).toNat+1)).filter fun v=>!p v)
 |[],i,h=>⟨fun _=>rfl,fun h=>absurd rfl h⟩
 |x::r,i,h=>by
  simp only[lL]
  cases hx:p x
  . have ih:=aB4 p r (i+1) (by omega)
    simp only[Zj,if_false]
    have hf:(x::r).filter (fun v=>!p v)=x::r.filter fun v=>!p v:=by rw[List.filter_cons,if_pos (by rw[hx];rfl)]
    refine⟨fun hh=>by rw[hf,ih.1 hh],fun hh=>?_⟩
    obtain⟨g1,g2,g3⟩:=ih.2 hh
    refine⟨by omega,by simp only[Zg];omega,?_⟩
    rw[hf,g3,show(lL p r (i+1)-i).toNat=(lL p r (i+1)-(i+1)).toNat+1 by omega]
    rfl
  . simp only[if_true]
    refine⟨fun hh=>by omega,fun _=>⟨Int.le_refl _,by simp only[Zg];omega,?_⟩⟩
    rw[List.filter_cons,if_neg (by rw[hx];simp),Int.sub_self]
    rfl
def cC(xs:List aV)(p:(aV->Bool)×(aV->Bool)):List aV:=xs.filter fun v=>!p.2 v
namespace cC
abbrev S5:Type:=((aV->Bool)×((aV->Bool)×bW))
abbrev O5:Type:=(Int×((List aV)×Unit))
def pre5:S5->Bool:=fun(x1,_,x3,x4,x5,_)=>bQ x5&&(decide (0<=x3)&&(decide (x3<x4)&&(decide (x4<=(x5.length:Int))&&(x5.drop x4.toNat).all x1)))
def mu5:S5->Nat:=fun(_,_,_,x4,x5,_)=>x5.length-x4.toNat
def Q5(s:S5)(o:O5):Prop:=match s,o with
 |(_,x2,x3,x4,x5,_),(o1,o2,_)=>0<=o1/\o1<=(o2.length:Int)/\o2.take o1.toNat=x5.take x3.toNat++(x5.drop x4.toNat).filter fun v=>!x2 v
noncomputable def rG(x1:(aV->Bool))(x2:(aV->Bool))(x3:Int)(x4:Int)(x5:(List aV)):Option (((aV->Bool)×((aV->Bool)×bW))⊕(Int×((List aV)×Unit))):=
 if(decide (x4<((length x5:Nat):Int)))=true then
 if(decide ((0:Int)<=x4))=true then
 if(decide (x4<((length x5:Nat):Int)))=true then
 if(x1 (List.getD x5 (Int.toNat x4) kH))=true then
 if(!(x2 (List.getD x5 (Int.toNat x4) kH)))=true then
 if(decide ((0:Int)<=x3))=true then
 if(decide (x3<((length x5:Nat):Int)))=true then
 some (.inl (x1,(x2,((wrap .i64 (x3+(1:Int))),((wrap .i64 (x4+(1:Int))),((List.modify x5 (Int.toNat x3) (fun z=>(List.getD x5 (Int.toNat x4) kH))),()))))))
 else
 none
 else
 none
 else
 some (.inl (x1,(x2,(x3,((wrap .i64 (x4+(1:Int))),(x5,()))))))
 else
 none
 else
 none
 else
 none
 else
 some (.inr (x3,(x5,())))
theorem wp5:∀s,pre5 s=true->Wp ((fun(x:S5)=>rG x.1 x.2.1 x.2.2.1 x.2.2.2.1 x.2.2.2.2.1) s) (hJ pre5 mu5 Q5 s):=by
 rintro⟨x1,x2,x3,x4,x5,⟨⟩⟩ hp
 simp only[pre5,Zb,Za] at hp
 obtain⟨hs,h1,h2,h3,h4⟩:=hp
 have hs':=bJ.1 hs
 show Wp (rG x1 x2 x3 x4 x5) _
 unfold rG
 by_cases hlt:x4<(x5.length:Int)
 . have hn:x4.toNat<x5.length:=by omega
   have e1:=Zn hn
   rw[dR hn,lN (n:=x3+1) (by omega) (by omega),lN (n:=x4+1) (by omega) (by omega),nX]
   rw[e1,List.all_cons,Zb] at h4
   generalize hv:x5[x4.toNat]=v at *
   refine aG (Zd hlt) (aG (Zd (by omega)) (aG (Zd hlt) (aG h4.1 (cF (fun c=>?_) fun c=>?_))))
   . have hi:x3.toNat<x5.length:=by omega
     have d1:(x5.set x3.toNat v).drop (x4+1).toNat=x5.drop (x4.toNat+1):=by
      rw[show(x4+1).toNat=x4.toNat+1 by omega,List.drop_set_of_lt (by omega)]
     refine aG (Zd h1) (aG (Zd (by omega)) (aH ⟨?_,?_,?_⟩))
     . simp only[pre5,Zb,Za,List.length_set,bJ,d1]
       exact⟨hs',by omega,by omega,by omega,h4.2⟩
     . simp only[mu5,List.length_set];omega
     . rintro⟨o1,o2,⟨⟩⟩ ⟨q1,q2,q3⟩
       refine⟨q1,q2,q3.trans ?_⟩
       rw[d1,e1,List.filter_cons,if_pos c,show(x3+1).toNat=x3.toNat+1 by omega,List.take_succ_eq_append_getElem (by simpa using hi),List.getElem_set_self,List.take_set_of_le (Nat.le_refl _),Zk]
       rfl
   . refine aH ⟨?_,by simp only[mu5];omega,?_⟩
     . simp only[pre5,Zb,Za]
       rw[show(x4+1).toNat=x4.toNat+1 by omega]
       exact⟨hs,h1,by omega,by omega,h4.2⟩
     . rintro⟨o1,o2,⟨⟩⟩ ⟨q1,q2,q3⟩
       refine⟨q1,q2,q3.trans ?_⟩
       rw[e1,List.filter_cons,if_neg c,show(x4+1).toNat=x4.toNat+1 by omega]
 . refine eG (by rw[Za];exact hlt) (aH ⟨h1,by show x3<=(x5.length:Int);omega,?_⟩)
   rw[Zt (by omega)]
   exact(List.append_nil _).symm
noncomputable def fn5:S5->O5:=zS (fun(x:S5)=>rG x.1 x.2.1 x.2.2.1 x.2.2.2.1 x.2.2.2.2.1) mu5
theorem ok5(x1 x2:aV->Bool)(x3 x4:Int)(x5:List aV)(hp:pre5 (x1,(x2,(x3,(x4,(x5,())))))=true):aX pre5 mu5 fn5 (x1,(x2,(x3,(x4,(x5,()))))) (rG x1 x2 x3 x4 x5):=oN wp5 hp
def pre(xs:List aV)(p:(aV->Bool)×(aV->Bool)):Bool:=bQ xs&&xs.all p.1
abbrev wf(x0:(List aV))(x1:((aV->Bool)×(aV->Bool))):Prop:=iM [(.val (.sl 0 aCE) .o),(.fn aCE .bool)] (x0,(x1,()))
noncomputable def aQ(x0:(List aV))(x1:((aV->Bool)×(aV->Bool))):Option (Unit×((List aV)×Unit)):=
 if(bH.pre x0 x1)=true then
 letB (bH x0 x1) fun v1=>
 if(decide (v1=(-1:Int)))=true then
 some ((),(x0,()))
 else
 if(cC.pre5 (x1.1,(x1.2,(v1,((wrap .i64 (v1+(1:Int))),(x0,()))))))=true then
 letB (cC.fn5 (x1.1,(x1.2,(v1,((wrap .i64 (v1+(1:Int))),(x0,())))))) fun v2=>
 if(decide ((0:Int)<=v2.1))=true then
 if(decide (v2.1<=((length v2.2.1:Nat):Int)))=true then
 if(decide (((length v2.2.1:Nat):Int)<=((length v2.2.1:Nat):Int)))=true then
 if(decide ((0:Int)<=(0:Int)))=true then
 if(decide ((0:Int)<=v2.1))=true then
 if(decide (v2.1<=((length (oS (Int.toNat v2.1) (Int.toNat ((length v2.2.1:Nat):Int)) kH v2.2.1):Nat):Int)))=true then
 some ((),((aW (Int.toNat (0:Int)) (Int.toNat v2.1) (oS (Int.toNat v2.1) (Int.toNat ((length v2.2.1:Nat):Int)) kH v2.2.1)),()))
 else
 none
 else
 none
 else
 none
 else
 none
 else
 none
 else
 none
 else
 none
 else
 none
theorem eq(x0:List aV)(x1:(aV->Bool)×(aV->Bool))(_:wf x0 x1)(hp:pre x0 x1=true):aQ x0 x1=some ((),(cC x0 x1,())):=by
 simp only[pre,Zb] at hp
 have hs':=bJ.1 hp.1
 have hx:=aB4 x1.2 x0 0 (Int.le_refl _)
 refine aCb ?_
 unfold aQ
 refine aG (show bH.pre _ _=true from hp.2) (bR (cF (fun c=>?_) fun c=>?_))
 . rw[Za] at c
   exact aH (hx.1 c).symm
 . rw[Za] at c
   obtain⟨g1,g2,g3⟩:=hx.2 c
   show Wp (if cC.pre5 (x1.1,(x1.2,(lL x1.2 x0 0,((wrap .i64 (lL x1.2 x0 0+1)),(x0,())))))=true then _ else _) _
   have hq:pre5 (x1.1,(x1.2,(lL x1.2 x0 0,((wrap .i64 (lL x1.2 x0 0+1)),(x0,())))))=true:=by
    rw[lN (n:=lL x1.2 x0 0+1) (by omega) (by omega)]
    simp only[pre5,Zb,Za]
    refine⟨hp.1,g1,by omega,by omega,?_⟩
    rw[Zu]
    exact fun y hy=>Zu.1 hp.2 y (List.mem_of_mem_drop hy)
   refine aG hq (cW (rI wp5 hq:Q5 _ (fn5 _)) ?_)
   rintro⟨o1,o2,⟨⟩⟩ ⟨q1,q2,q3⟩
   have q2:o1<=(o2.length:Int):=q2
   refine aG (Zd q1) (aG (Zd q2) (aG (Zd (Int.le_refl _)) (aG (by decide) (aG (Zd q1) (aG ?_ (aH ?_))))))
   . rw[Za]
     simp only[oS,Zf,Zr,List.length_replicate,Zs]
     omega
   . show(((oS o1.toNat ((o2.length:Int)).toNat _ o2).drop (Int.toNat 0)).take (o1.toNat-Int.toNat 0))=x0.filter _
     rw[Int.toNat_zero,List.drop_zero,Nat.sub_zero,g3]
     unfold oS
     rw[Zk,List.take_append_of_le_length (by rw[Zr];omega),List.take_take,Nat.min_self,q3,lN (n:=lL x1.2 x0 0+1) (by omega) (by omega),Int.sub_zero,show(lL x1.2 x0 0+1).toNat=(lL x1.2 x0 0).toNat+1 by omega]
end cC
theorem aAf{f:aV->Int}{b:Int}:(l:List aV)->l.Pairwise (fun x y=>f x<=f y)->(∀y∈l,b<=f y)->(l.filter fun y=>!decide (f y=b))=l.dropWhile fun y=>decide (f y=b)
 |[],_,_=>rfl
 |x::r,h,hb=>by
  have hp:=List.pairwise_cons.1 h
  by_cases hx:f x=b
  . rw[List.filter_cons,if_neg (by simp[hx]),List.dropWhile_cons,if_pos (by simp[hx])]
    exact aAf r hp.2 fun y hy=>hb y (Zo _ hy)
  . rw[List.dropWhile_cons,if_neg (by simp[hx]),List.filter_eq_self.2]
    intro y hy
    have h1:=hb x List.mem_cons_self
    have:b<f y:=by
     rcases List.mem_cons.1 hy with rfl|hy
     . omega
     . have:=hp.1 y hy;omega
    rw[decide_eq_false (by omega)];rfl
def fE(x:aV)(len b:Int):Bool:=decide (cL x.1 len=b)
namespace fE
def pre(_:aV)(len _:Int):Bool:=!decide (len=0)
abbrev wf(x0:aV)(x1:Int)(x2:Int):Prop:=iM [(.val aCE .f),(.peek (.int .i64)),(.peek (.int .i64))] (x0,(x1,(x2,())))
noncomputable def aQ(x0:aV)(x1:Int)(x2:Int):Option mV:=
 if(!(decide (x1=(0:Int))))=true then
 some ((),((decide ((wrap .i64 (Int.tdiv x0.1 x1))=x2)),()))
 else
 none
theorem eq(x0:aV)(x1 x2:Int)(_:wf x0 x1 x2)(hp:pre x0 x1 x2=true):aQ x0 x1 x2=some ((),(fE x0 x1 x2,())):=bO hp rfl
end fE
def aK5(l:List aV):Prop:=(∀it∈l,0<=it.1/\it.1<=100000)/\l.Pairwise (fun a b=>a.1<b.1)
abbrev iW:bW->Int->Int->bW:=jN
namespace iW
abbrev S4:Type:=(Int×(Int×aC1))
abbrev O4:Type:=aC1
noncomputable def pre4:S4->Bool:=fun(x1,x2,_,_,_,_,_,_,_,x10,_)=>decide (0<=x1)&&(decide (1<=x2)&&(bQ x10&&B (aK5 x10)))
def kU:S4->Nat:=fun(_,_,_,_,_,_,_,_,_,x10,_)=>x10.length
def Q4(s:S4)(o:O4):Prop:=match s,o with
 |(x1,x2,_,_,_,_,x7,x8,_,x10,_),(_,_,_,_,y5,y6,_,y8,_)=>y6=x8/\(y5,y8)=mZ x2 x1 (cL (wrap .i64 (x8-1)) x2) x10.length x7 x10
noncomputable def eO(x1:Int)(x2:Int)(x3:Int)(x4:Int)(x5:Unit)(x6:(List aV))(x7:Int)(x8:Int)(x9:Unit)(x10:(List aV)):Option ((Int×(Int×aC1))⊕aC1):=
 if(decide (x1<((length x10:Nat):Int)))=true then
 if(decide ((0:Int)<=(0:Int)))=true then
 if(decide ((0:Int)<((length x10:Nat):Int)))=true then
 if(!(decide (x2=(0:Int))))=true then
 if(!(decide (x2=(0:Int))))=true then
 if(!(decide ((wrap .i64 (Int.tdiv (List.getD x10 (Int.toNat (0:Int)) kH).1 x2))=(wrap .i64 (Int.tdiv (wrap .i64 (x8-(1:Int))) x2)))))=true then
 if(decide ((0:Int)<=(0:Int)))=true then
 if(decide ((0:Int)<((length x10:Nat):Int)))=true then
 if(!(decide (x2=(0:Int))))=true then
 if(cC.pre x10 ((fun x=>(fE.pre x x2 (wrap .i64 (Int.tdiv (List.getD x10 (Int.toNat (0:Int)) kH).1 x2)))),(fun x=>(fE x x2 (wrap .i64 (Int.tdiv (List.getD x10 (Int.toNat (0:Int)) kH).1 x2))))))=true then
 letB (cC x10 ((fun x=>(fE.pre x x2 (wrap .i64 (Int.tdiv (List.getD x10 (Int.toNat (0:Int)) kH).1 x2)))),(fun x=>(fE x x2 (wrap .i64 (Int.tdiv (List.getD x10 (Int.toNat (0:Int)) kH).1 x2)))))) fun v1=>
 some (.inl (x1,(x2,(x3,(x4,(x5,(x6,((wrap .i64 ((wrap .i64 ((wrap .i64 (Int.tdiv (List.getD x10 (Int.toNat (0:Int)) kH).1 x2))+(1:Int)))*x2)),(x8,(x9,(v1,())))))))))))
 else
 none
 else
 none
 else
 none
 else
 none
 else
 some (.inr (x3,(x4,(x5,(x6,(x7,(x8,(x9,(x10,())))))))))
 else
 none
 else
 none
 else
 none
 else
 none
 else
 some (.inr (x3,(x4,(x5,(x6,(x7,(x8,(x9,(x10,())))))))))
theorem wp4:∀s,pre4 s=true->Wp ((fun(x:S4)=>eO x.1 x.2.1 x.2.2.1 x.2.2.2.1 x.2.2.2.2.1 x.2.2.2.2.2.1 x.2.2.2.2.2.2.1 x.2.2.2.2.2.2.2.1 x.2.2.2.2.2.2.2.2.1 x.2.2.2.2.2.2.2.2.2.1) s) (hJ pre4 kU Q4 s):=by
 rintro⟨x1,x2,x3,x4,⟨⟩,x6,x7,x8,⟨⟩,x10,⟨⟩⟩ hp
 simp only[pre4,Zb,Za,cP] at hp
 obtain⟨h0,h1,hs,hi⟩:=hp
 have hs':=bJ.1 hs
 show Wp (eO x1 x2 x3 x4 () x6 x7 x8 () x10) _
 unfold eO
 have hz:(!decide (x2=0))=true:=by simp only[Bool.not_eq_true',Zv];omega
 by_cases hlt:x1<(x10.length:Int)
 . match x10,hs,hs',hlt,hi with
   |[],_,_,hlt,_=>simp only[Zh] at hlt;omega
   |it::r,hs,hs',hlt,hi=>
    refine aG (Zd hlt) (aG (by decide) (aG (by simp only[Za,Zg];omega) (aG hz (aG hz (cF (fun c=>?_) fun c=>?_)))))
    . simp only[Bool.not_eq_true',Zv] at c
      have c:¬cL it.1 x2=cL (wrap .i64 (x8-1)) x2:=c
      have hb:∀y∈it::r,cL y.1 x2=y.1/x2:=fun y hy=>wK (hi.1 y hy).1 (hi.1 y hy).2 h1
      have hpw:=List.pairwise_cons.1 hi.2
      have hf:((it::r).filter fun y=>!fE y x2 (cL it.1 x2))=(it::r).dropWhile fun y=>decide (cL y.1 x2=cL it.1 x2):=by
       refine aAf (f:=fun y=>cL y.1 x2) (it::r) (List.Pairwise.imp_of_mem (fun{a b} ha hb' hab=>?_) hi.2) fun y hy=>?_
       . rw[hb a ha,hb b hb'];exact Int.ediv_le_ediv (by omega) (Int.le_of_lt hab)
       . rw[hb y hy,hb it List.mem_cons_self]
         refine Int.ediv_le_ediv (by omega) ?_
         rcases List.mem_cons.1 hy with rfl|hy
         . exact Int.le_refl _
         . exact Int.le_of_lt (hpw.1 y hy)
      refine aG (by decide) (aG (by simp only[Za,Zg];omega) (aG hz (aG ?_ (bR (aH ?_)))))
      . show(bQ (it::r)&&(it::r).all _)=true
        rw[hs];exact Zu.2 fun y _=>hz
      . show hJ pre4 kU Q4 _ (.inl (x1,(x2,(x3,(x4,((),(x6,((wrap .i64 (wrap .i64 (cL it.1 x2+1)*x2)),(x8,((),((it::r).filter fun y=>!fE y x2 (cL it.1 x2),())))))))))))
        rw[hf]
        have hd:((it::r).dropWhile fun y=>decide (cL y.1 x2=cL it.1 x2)).length<=r.length:=by
         rw[List.dropWhile_cons,if_pos (by simp)]
         exact qV r
        have hs2:r.length+1<=16777216:=by simpa using hs'
        have hsub:=tD (p:=fun y:aV=>decide (cL y.1 x2=cL it.1 x2)) (it::r)
        refine⟨?_,?_,fun o ho=>?_⟩
        . simp only[pre4,Zb,Za,bJ,cP]
          exact⟨h0,h1,by omega,fun y hy=>hi.1 y (hsub.mem hy),hi.2.sublist hsub⟩
        . show length _<(it::r).length
          simp only[Zg];omega
        . refine⟨ho.1,ho.2.trans ?_⟩
          rw[Zg]
          conv=>rhs;unfold mZ
          rw[if_pos ⟨hlt,c⟩]
          exact yS _ _ _ _ (Nat.le_refl _) hd
    . simp only[Bool.not_eq_true',Zv,Decidable.not_not] at c
      have c:cL it.1 x2=cL (wrap .i64 (x8-1)) x2:=c
      refine aH ⟨rfl,?_⟩
      simp only[Zg,mZ]
      rw[if_neg (fun h=>h.2 c)]
 . refine eG (by rw[Za];exact hlt) (aH ⟨rfl,?_⟩)
   match x10,hlt with
   |[],_=>rfl
   |it::r,hlt=>
    simp only[Zg,mZ]
    rw[if_neg (fun h=>hlt h.1)]
noncomputable def fn4:S4->O4:=zS (fun(x:S4)=>eO x.1 x.2.1 x.2.2.1 x.2.2.2.1 x.2.2.2.2.1 x.2.2.2.2.2.1 x.2.2.2.2.2.2.1 x.2.2.2.2.2.2.2.1 x.2.2.2.2.2.2.2.2.1 x.2.2.2.2.2.2.2.2.2.1) kU
theorem vZ(x1 x2 x3 x4:Int)(x5:Unit)(x6:List aV)(x7 x8:Int)(x9:Unit)(x10:List aV)(hp:pre4 (x1,(x2,(x3,(x4,(x5,(x6,(x7,(x8,(x9,(x10,()))))))))))=true):
 aX pre4 kU fn4 (x1,(x2,(x3,(x4,(x5,(x6,(x7,(x8,(x9,(x10,())))))))))) (eO x1 x2 x3 x4 x5 x6 x7 x8 x9 x10):=oN wp4 hp
def pre(x:bW)(_ _:Int):Bool:=bQ x.2.2.1
abbrev wf(x0:bW)(x1:Int)(x2:Int):Prop:=iM [(.val tK .f),(.val (.int .i64) .f),(.val (.int .i64) .f)] (x0,(x1,(x2,())))
noncomputable def aQ(x0:bW)(x1:Int)(x2:Int):Option (Unit×(bW×Unit)):=
 if(bA.pre x0)=true then
 if(decide (x1<(1:Int)))=true then
 letB (bA x0) fun v1=>
 some ((),(v1,()))
 else
 if(decide (x2<(0:Int)))=true then
 letB (bA x0) fun v2=>
 some ((),(v2,()))
 else
 if(dN.pre x0)=true then
 letB (fI x0) fun v3=>
 if(!v3)=true then
 letB (bA x0) fun v4=>
 some ((),(v4,()))
 else
 letB (bA x0) fun v5=>
 if(iW.pre4 (x2,(x1,((0:Int),((0:Int),((),(([]:List aV),(v5.1,(v5.2.1,(v5.2.2.2,v5.2.2))))))))))=true then
 letB (iW.fn4 (x2,(x1,((0:Int),((0:Int),((),(([]:List aV),(v5.1,(v5.2.1,(v5.2.2.2,v5.2.2)))))))))) fun v6=>
 some ((),((v6.2.2.2.2.1,(v6.2.2.2.2.2.1,(v6.2.2.2.2.2.2.2.1,v6.2.2.2.2.2.2.1))),()))
 else
 none
 else
 none
 else
 none
theorem eq(x0:bW)(x1 x2:Int)(_:wf x0 x1 x2)(hp:pre x0 x1 x2=true):aQ x0 x1 x2=some ((),(jN x0 x1 x2,())):=by
 have hs:bQ x0.2.2.1=true:=hp
 refine aCb ?_
 unfold aQ
 rw[show bA x0=x0 from rfl]
 refine aG (show bA.pre x0=true from hs) ?_
 have no:(decide (1<=x1)&&(decide (0<=x2)&&fI x0))=false->jN x0 x1 x2=x0:=fun h=>if_neg (by rw[h];exact Bool.false_ne_true)
 by_cases c1:x1<1
 . exact aG (Zd c1) (bR (aH (no (by rw[decide_eq_false (p:=1<=x1) (by omega)];rfl)).symm))
 refine eG (by rw[Za];exact c1) ?_
 by_cases c2:x2<0
 . exact aG (Zd c2) (bR (aH (no (by rw[decide_eq_false (p:=0<=x2) (by omega),Bool.false_and,Bool.and_false])).symm))
 refine eG (by rw[Za];exact c2) (aG (show dN.pre x0=true from hs) (bR ?_))
 cases c3:fI x0
 . exact aG rfl (bR (aH (no (by rw[c3,Bool.and_false,Bool.and_false])).symm))
 refine eG (by decide) (bR ?_)
 have hr:=lO.1 c3
 have hq:pre4 (x2,(x1,((0:Int),((0:Int),((),(([]:List aV),(x0.1,(x0.2.1,(x0.2.2.2,x0.2.2)))))))))=true:=by
  simp only[pre4,Zb,Za,cP]
  refine⟨by omega,by omega,hs,fun it hit=>?_,hr.2.2⟩
  have:=hr.2.1 it hit
  have:=hr.1
  omega
 rw[show jN x0 x1 x2=_ from if_pos (by rw[c3,Zd (p:=1<=x1) (by omega),Zd (p:=0<=x2) (by omega)];rfl)]
 refine aG hq (cW (rI wp4 hq:Q4 _ (fn4 _)) ?_)
 rintro⟨_,_,_,_,y5,y6,⟨⟩,y8,⟨⟩⟩ ⟨q1,q2⟩
 refine aH ?_
 show(y5,(y6,(y8,())))=_
 rw[<-q2,q1]
end iW
def fY(x y:aV):Bool:=x.2.1==y.2.1
namespace fY
def pre(x _:aV):Bool:=decide (x.1=x.1)
abbrev wf(x0:aV)(x1:aV):Prop:=iM [(.val aCE .f),(.peek aCE)] (x0,(x1,()))
noncomputable def aQ(x0:aV)(x1:aV):Option mV:=
 some ((),((x0.2.1==x1.2.1),()))
theorem eq(x0 x1:aV)(_:wf x0 x1)(_:pre x0 x1=true):aQ x0 x1=some ((),(fY x0 x1,())):=rfl
end fY
abbrev iV:bW->Int->bW:=jR
namespace iV
abbrev S6:Type:=(Int×((List aV)×aCT))
abbrev O6:Type:=aC1
noncomputable def pre6:S6->Bool:=fun(x1,x2,x3,x4,x5,_,_,_,_,_,_,_,x13,_)=>decide (1<=x1)&&(bQ x2&&(decide (x3=(x2.length:Int))&&(decide (0<=x4)&&(decide (x4<=(x2.length:Int))&&(decide ((x13.length:Int)<=x4)&&B (x5.2.2.1=x2))))))
def mu6:S6->Nat:=fun(_,x2,_,x4,_)=>x2.length-x4.toNat
def Q6(s:S6)(o:O6):Prop:=match s,o with
 |(x1,x2,_,x4,x5,_,_,_,_,x10,x11,_,x13,_),(_,_,_,_,y5,y6,_,y8,_)=>y5=x10/\y6=x11/\y8=x13++tY x1 (cL (wrap .i64 (x5.2.1-1)) x1) (x2.drop x4.toNat)
noncomputable def aCM(x1:Int)(x2:(List aV))(x3:Int)(x4:Int)(x5:bW)(x6:Int)(x7:Int)(x8:Unit)(x9:(List aV))(x10:Int)(x11:Int)(x12:Unit)(x13:(List aV)):Option ((Int×((List aV)×aCT))⊕aC1):=
 if(decide (x4<x3))=true then
 if(decide ((0:Int)<=x4))=true then
 if(decide (x4<((length x2:Nat):Int)))=true then
 if(!((List.getD x2 (Int.toNat x4) kH).2.1==([]:List UInt8)))=true then
 if(decide ((0:Int)<=(wrap .i64 (x4+(1:Int)))))=true then
 if(decide ((wrap .i64 (x4+(1:Int)))<=((length x5.2.2.1:Nat):Int)))=true then
 if(decide (((length x5.2.2.1:Nat):Int)<=((length x5.2.2.1:Nat):Int)))=true then
 if(cR.pre (aW (Int.toNat (wrap .i64 (x4+(1:Int)))) (Int.toNat ((length x5.2.2.1:Nat):Int)) x5.2.2.1) ((fun x=>(fY.pre x (List.getD x2 (Int.toNat x4) kH))),(fun x=>(fY x (List.getD x2 (Int.toNat x4) kH)))))=true then
 letB (cR (aW (Int.toNat (wrap .i64 (x4+(1:Int)))) (Int.toNat ((length x5.2.2.1:Nat):Int)) x5.2.2.1) ((fun x=>(fY.pre x (List.getD x2 (Int.toNat x4) kH))),(fun x=>(fY x (List.getD x2 (Int.toNat x4) kH))))) fun v1=>
 if(!v1)=true then
 if(decide (length x13+length ((List.getD x2 (Int.toNat x4) kH)::([]:List aV))<=gO))=true then
 some (.inl (x1,(x2,(x3,((wrap .i64 (x4+(1:Int))),(x5,(x6,(x7,(x8,(x9,(x10,(x11,(x12,((List.append x13 ((List.getD x2 (Int.toNat x4) kH)::([]:List aV))),()))))))))))))))
 else
 none
 else
 if(!(decide (x1=(0:Int))))=true then
 if(!(decide (x1=(0:Int))))=true then
 if(decide ((wrap .i64 (Int.tdiv (List.getD x2 (Int.toNat x4) kH).1 x1))=(wrap .i64 (Int.tdiv (wrap .i64 (x5.2.1-(1:Int))) x1))))=true then
 if(decide (length x13+length ((List.getD x2 (Int.toNat x4) kH)::([]:List aV))<=gO))=true then
 some (.inl (x1,(x2,(x3,((wrap .i64 (x4+(1:Int))),(x5,(x6,(x7,(x8,(x9,(x10,(x11,(x12,((List.append x13 ((List.getD x2 (Int.toNat x4) kH)::([]:List aV))),()))))))))))))))
 else
 none
 else
 some (.inl (x1,(x2,(x3,((wrap .i64 (x4+(1:Int))),(x5,(x6,(x7,(x8,(x9,(x10,(x11,(x12,(x13,()))))))))))))))
 else
 none
 else
 none
 else
 none
 else
 none
 else
 none
 else
 none
 else
 if(!false)=true then
 if(decide (length x13+length ((List.getD x2 (Int.toNat x4) kH)::([]:List aV))<=gO))=true then
 some (.inl (x1,(x2,(x3,((wrap .i64 (x4+(1:Int))),(x5,(x6,(x7,(x8,(x9,(x10,(x11,(x12,((List.append x13 ((List.getD x2 (Int.toNat x4) kH)::([]:List aV))),()))))))))))))))
 else
 none
 else
 if(!(decide (x1=(0:Int))))=true then
 if(!(decide (x1=(0:Int))))=true then
 if(decide ((wrap .i64 (Int.tdiv (List.getD x2 (Int.toNat x4) kH).1 x1))=(wrap .i64 (Int.tdiv (wrap .i64 (x5.2.1-(1:Int))) x1))))=true then
 if(decide (length x13+length ((List.getD x2 (Int.toNat x4) kH)::([]:List aV))<=gO))=true then
 some (.inl (x1,(x2,(x3,((wrap .i64 (x4+(1:Int))),(x5,(x6,(x7,(x8,(x9,(x10,(x11,(x12,((List.append x13 ((List.getD x2 (Int.toNat x4) kH)::([]:List aV))),()))))))))))))))
 else
 none
 else
 some (.inl (x1,(x2,(x3,((wrap .i64 (x4+(1:Int))),(x5,(x6,(x7,(x8,(x9,(x10,(x11,(x12,(x13,()))))))))))))))
 else
 none
 else
 none
 else
 none
 else
 none
 else
 some (.inr (x6,(x7,(x8,(x9,(x10,(x11,(x12,(x13,())))))))))
theorem wp6:∀s,pre6 s=true->Wp ((fun(x:S6)=>aCM x.1 x.2.1 x.2.2.1 x.2.2.2.1 x.2.2.2.2.1 x.2.2.2.2.2.1 x.2.2.2.2.2.2.1 x.2.2.2.2.2.2.2.1 x.2.2.2.2.2.2.2.2.1 x.2.2.2.2.2.2.2.2.2.1 x.2.2.2.2.2.2.2.2.2.2.1 x.2.2.2.2.2.2.2.2.2.2.2.1 x.2.2.2.2.2.2.2.2.2.2.2.2.1) s) (hJ pre6 mu6 Q6 s):=by
 rintro⟨x1,x2,x3,x4,x5,x6,x7,⟨⟩,x9,x10,x11,⟨⟩,x13,⟨⟩⟩ hp
 simp only[pre6,Zb,Za,cP] at hp
 obtain⟨h0,hs,rfl,h1,h2,h3,rfl⟩:=hp
 have hs':=bJ.1 hs
 show Wp (aCM x1 x5.2.2.1 _ x4 x5 x6 x7 () x9 x10 x11 () x13) _
 unfold aCM
 by_cases hlt:x4<(x5.2.2.1.length:Int)
 . have hn:x4.toNat<x5.2.2.1.length:=by omega
   have e1:=Zn hn
   rw[dR hn,lN (n:=x4+1) (by omega) (by omega)]
   generalize hit:x5.2.2.1[x4.toNat]=it at *
   have hz:(!decide (x1=0))=true:=by simp only[Bool.not_eq_true',Zv];omega
   have hl:decide (x13.length+(it::([]:List aV)).length<=gO)=true:=by
    simp only[Za,Zg,Zh,gO];omega
   have hdt:aW (x4+1).toNat ((x5.2.2.1.length:Int)).toNat x5.2.2.1=x5.2.2.1.drop (x4.toNat+1):=by
    show List.take _ (List.drop _ _)=_
    rw[show(x4+1).toNat=x4.toNat+1 by omega]
    exact List.take_of_length_le (by rw[Zs];omega)
   rw[hdt]
   have nx:∀y:List aV,y.length<=1->tY x1 (cL (wrap .i64 (x5.2.1-1)) x1) (x5.2.2.1.drop x4.toNat)=y++tY x1 (cL (wrap .i64 (x5.2.1-1)) x1) (x5.2.2.1.drop (x4.toNat+1))->
    hJ pre6 mu6 Q6 (x1,x5.2.2.1,(x5.2.2.1.length:Int),x4,x5,x6,x7,(),x9,x10,x11,(),x13,()) (.inl (x1,(x5.2.2.1,((x5.2.2.1.length:Int),((x4+1),(x5,(x6,(x7,((),(x9,(x10,(x11,((),(x13++y,())))))))))))))):=by
    intro y hy he
    refine⟨?_,by simp only[mu6];omega,?_⟩
    . simp only[pre6,Zb,Za,Zf,cP];exact⟨h0,hs,trivial,by omega,by omega,by omega,trivial⟩
    . rintro⟨_,_,_,_,y5,y6,⟨⟩,y8,⟨⟩⟩ ⟨q1,q2,q3⟩
      refine⟨q1,q2,q3.trans ?_⟩
      rw[he,show(x4+1).toNat=x4.toNat+1 by omega,Zk]
   have nx1:(it.2.1==([]:List UInt8)||(!((x5.2.2.1.drop (x4.toNat+1)).any fun y=>y.2.1==it.2.1)||decide (cL it.1 x1=cL (wrap .i64 (x5.2.1-1)) x1)))=true->
    hJ pre6 mu6 Q6 (x1,x5.2.2.1,(x5.2.2.1.length:Int),x4,x5,x6,x7,(),x9,x10,x11,(),x13,()) (.inl (x1,(x5.2.2.1,((x5.2.2.1.length:Int),((x4+1),(x5,(x6,(x7,((),(x9,(x10,(x11,((),(List.append x13 (it::([]:List aV)),())))))))))))))):=fun h=>
    nx [it] (by simp) (by rw[e1,sN,h];rfl)
   have nx0:(it.2.1==([]:List UInt8)||(!((x5.2.2.1.drop (x4.toNat+1)).any fun y=>y.2.1==it.2.1)||decide (cL it.1 x1=cL (wrap .i64 (x5.2.1-1)) x1)))=false->
    hJ pre6 mu6 Q6 (x1,x5.2.2.1,(x5.2.2.1.length:Int),x4,x5,x6,x7,(),x9,x10,x11,(),x13,()) (.inl (x1,(x5.2.2.1,((x5.2.2.1.length:Int),((x4+1),(x5,(x6,(x7,((),(x9,(x10,(x11,((),(x13,())))))))))))))):=fun h=>by
    have:=nx [] (by simp) (by rw[e1,sN,h];rfl)
    rwa [List.append_nil] at this
   refine aG (Zd hlt) (aG (Zd h1) (aG (Zd hlt) (cF (fun c=>?_) fun c=>?_)))
   . have c:(it.2.1==([]:List UInt8))=false:=by cases h:(it.2.1==([]:List UInt8))<;>simp_all
     refine aG (Zd (by omega)) (aG (Zd (by omega)) (aG (Zd (Int.le_refl _)) (aG ?_ (bR ?_))))
     . show List.all _ _=true
       exact Zu.2 fun y _=>Zd rfl
     . show Wp (if(!((x5.2.2.1.drop (x4.toNat+1)).any fun y=>y.2.1==it.2.1))=true then _ else _) _
       refine cF (fun d=>aG hl (aH (nx1 (by rw[c,d];rfl)))) fun d=>?_
       have d:((x5.2.2.1.drop (x4.toNat+1)).any fun y=>y.2.1==it.2.1)=true:=by cases h:((x5.2.2.1.drop (x4.toNat+1)).any fun y=>y.2.1==it.2.1)<;>simp_all
       refine aG hz (aG hz (cF (fun f=>aG hl (aH (nx1 (by rw[c,d];exact f)))) fun f=>?_))
       rw[Za] at f
       have f:¬cL it.1 x1=cL (wrap .i64 (x5.2.1-1)) x1:=f
       exact aH (nx0 (by rw[c,d,decide_eq_false f];rfl))
   . have c:(it.2.1==([]:List UInt8))=true:=by cases h:(it.2.1==([]:List UInt8))<;>simp_all
     exact aG rfl (aG hl (aH (nx1 (by rw[c];rfl))))
 . refine eG (by rw[Za];exact hlt) (aH ⟨rfl,rfl,?_⟩)
   rw[Zt (by omega)]
   exact(List.append_nil _).symm
noncomputable def fn6:S6->O6:=zS (fun(x:S6)=>aCM x.1 x.2.1 x.2.2.1 x.2.2.2.1 x.2.2.2.2.1 x.2.2.2.2.2.1 x.2.2.2.2.2.2.1 x.2.2.2.2.2.2.2.1 x.2.2.2.2.2.2.2.2.1 x.2.2.2.2.2.2.2.2.2.1 x.2.2.2.2.2.2.2.2.2.2.1 x.2.2.2.2.2.2.2.2.2.2.2.1 x.2.2.2.2.2.2.2.2.2.2.2.2.1) mu6
theorem ok6(x1:Int)(x2:List aV)(x3 x4:Int)(x5:bW)(x6 x7:Int)(x8:Unit)(x9:List aV)(x10 x11:Int)(x12:Unit)(x13:List aV)(hp:pre6 (x1,(x2,(x3,(x4,(x5,(x6,(x7,(x8,(x9,(x10,(x11,(x12,(x13,())))))))))))))=true):
 aX pre6 mu6 fn6 (x1,(x2,(x3,(x4,(x5,(x6,(x7,(x8,(x9,(x10,(x11,(x12,(x13,()))))))))))))) (aCM x1 x2 x3 x4 x5 x6 x7 x8 x9 x10 x11 x12 x13):=oN wp6 hp
def pre(x:bW)(_:Int):Bool:=bQ x.2.2.1
abbrev wf(x0:bW)(x1:Int):Prop:=iM [(.val tK .f),(.val (.int .i64) .f)] (x0,(x1,()))
noncomputable def aQ(x0:bW)(x1:Int):Option (Unit×(bW×Unit)):=
 if(bA.pre x0)=true then
 if(decide (x1<(1:Int)))=true then
 letB (bA x0) fun v1=>
 some ((),(v1,()))
 else
 if(dN.pre x0)=true then
 letB (fI x0) fun v2=>
 if(!v2)=true then
 letB (bA x0) fun v3=>
 some ((),(v3,()))
 else
 letB (bA x0) fun v4=>
 if(iV.pre6 (x1,(x0.2.2.1,(((length x0.2.2.1:Nat):Int),((0:Int),(x0,((0:Int),((0:Int),((),(([]:List aV),(v4.1,(v4.2.1,(v4.2.2.2,(([]:List aV),()))))))))))))))=true then
 letB (iV.fn6 (x1,(x0.2.2.1,(((length x0.2.2.1:Nat):Int),((0:Int),(x0,((0:Int),((0:Int),((),(([]:List aV),(v4.1,(v4.2.1,(v4.2.2.2,(([]:List aV),())))))))))))))) fun v5=>
 some ((),((v5.2.2.2.2.1,(v5.2.2.2.2.2.1,(v5.2.2.2.2.2.2.2.1,v5.2.2.2.2.2.2.1))),()))
 else
 none
 else
 none
 else
 none
theorem eq(x0:bW)(x1:Int)(_:wf x0 x1)(hp:pre x0 x1=true):aQ x0 x1=some ((),(jR x0 x1,())):=by
 have hs:bQ x0.2.2.1=true:=hp
 refine aCb ?_
 unfold aQ
 rw[show bA x0=x0 from rfl]
 have no:(decide (1<=x1)&&fI x0)=false->jR x0 x1=x0:=fun h=>if_neg (by rw[h];exact Bool.false_ne_true)
 refine aG (show bA.pre x0=true from hs) ?_
 by_cases c1:x1<1
 . exact aG (Zd c1) (bR (aH (no (by rw[decide_eq_false (p:=1<=x1) (by omega)];rfl)).symm))
 refine eG (by rw[Za];exact c1) (aG (show dN.pre x0=true from hs) (bR ?_))
 cases c3:fI x0
 . exact aG rfl (bR (aH (no (by rw[c3,Bool.and_false])).symm))
 have hq:pre6 (x1,(x0.2.2.1,((x0.2.2.1.length:Int),((0:Int),(x0,((0:Int),((0:Int),((),(([]:List aV),(x0.1,(x0.2.1,(x0.2.2.2,(([]:List aV),())))))))))))))=true:=by
  simp only[pre6,Zb,Za,Zh,cP];exact⟨by omega,hs,trivial,by omega,by omega,by omega,trivial⟩
 rw[show jR x0 x1=_ from if_pos (by rw[c3,Zd (p:=1<=x1) (by omega)];rfl)]
 refine eG (by decide) (bR (aG hq (cW (rI wp6 hq:Q6 _ (fn6 _)) ?_)))
 rintro⟨_,_,_,_,y5,y6,⟨⟩,y8,⟨⟩⟩ ⟨q1,q2,q3⟩
 refine aH ?_
 show(y5,(y6,(y8,())))=_
 rw[q1,q2,q3];rfl
end iV
theorem aEk{β γ:Type}{m:Option ((β×Unit)×(γ×Unit))}{v:β×γ}(h:Wp m fun r=>(r.1.1,r.2.1)=v):m=some ((v.1,()),(v.2,())):=by
 obtain⟨a,rfl,rfl⟩:=h
 rfl
def lT(k:bB)(s:aP)(c:fQ):bB×aF:=oB s k c
namespace lT
noncomputable def pre(k:bB)(s:aP)(c:fQ):Bool:=B (yB s k c/\c.2.2.2.1<s.1)
abbrev wf(x0:bB)(x1:aP)(x2:fQ):Prop:=iM [(.ref zk1 .o),(.val vY .f),(.val wN .f)] (x0,(x1,(x2,())))
noncomputable def aQ(x0:bB)(x1:aP)(x2:fQ):Option ((bB×Unit)×uW):=
 if(fV.pre x0.2.1 x2.2.2.2.1 x2.1)=true then
 letB (jS x0.2.1 x2.2.2.2.1 x2.1) fun v1=>
 if(cQ.pre v1 x2.2.2.2.2.2.1 x2.2.2.2.2.1)=true then
 letB (cN v1 x2.2.2.2.2.2.1 x2.2.2.2.2.1) fun v2=>
 if(decide (v2.1=(1:Int)))=true then
 some ((x0,()),(((1:Int),(v2.2,(([]:List UInt8),(([]:List UInt8),())))),()))
 else
 if(decide (v2.1=(2:Int)))=true then
 some ((x0,()),(((2:Int),mP),()))
 else
 if(decide (v2.1=(3:Int)))=true then
 some ((x0,()),(((3:Int),mP),()))
 else
 if(decide (v2.1=(4:Int)))=true then
 some ((x0,()),(((4:Int),mP),()))
 else
 if(decide ((0:Int)<=x2.2.2.2.1))=true then
 if(decide (x2.2.2.2.1<((length x0.1:Nat):Int)))=true then
 if(jY.pre (List.getD x0.1 (Int.toNat x2.2.2.2.1) mQ) x2.2.2.2.2.2.2.1 x2.2.2.2.2.2.2.2.1 x2.1 x0.2.2.2.1)=true then
 letB (mF (List.getD x0.1 (Int.toNat x2.2.2.2.1) mQ) x2.2.2.2.2.2.2.1 x2.2.2.2.2.2.2.2.1 x2.1 x0.2.2.2.1) fun v3=>
 if(!v3.2.2)=true then
 some ((x0,()),(((8:Int),mP),()))
 else
 if(decide ((0:Int)<=x2.2.2.2.1))=true then
 if(decide (x2.2.2.2.1<((length x0.1:Nat):Int)))=true then
 if(jK.pre v1 x1.2.1 x2.2.2.2.2.2.1 x2.2.2.2.2.1 v3.2.1)=true then
 letB (iP v1 x1.2.1 x2.2.2.2.2.2.1 x2.2.2.2.2.1 v3.2.1) fun v4=>
 if(fZ.pre x0.2.1 v4)=true then
 letB (nB x0.2.1 v4) fun v5=>
 some ((((List.modify x0.1 (Int.toNat x2.2.2.2.1) (fun z=>v3.1)),(v5,x0.2.2)),()),(((0:Int),(v3.2.1,(([]:List UInt8),(([]:List UInt8),())))),()))
 else
 none
 else
 none
 else
 none
 else
 none
 else
 none
 else
 none
 else
 none
 else
 none
 else
 none
theorem eq(x1:bB)(x0:aP)(x2:fQ)(_:wf x1 x0 x2)(hp:pre x1 x0 x2=true):aQ x1 x0 x2=some (((lT x1 x0 x2).1,()),((lT x1 x0 x2).2,())):=by
 obtain⟨⟨hk,hc,hw⟩,hA⟩:=cP.1 hp
 obtain⟨⟨h0,h1,h2,h3,h4,h5,h6⟩,k1,k2,k3,k4,k5⟩:=hk
 have hs:=fT h0
 have cf:=jF hc hw
 have hA0:=cf.2.2.2.1.1
 have hAl:x2.2.2.2.1<(x1.1.length:Int):=by omega
 have hr:fI (fP x1 x2)=true:=k1 _ (iO (by omega) _)
 have hms:=aER (by omega) k5
 have hmk:=xX (row:=x2.2.2.2.1) (who:=x2.1) (w:=x0.2.1) (fun m hm=>(k5.1 m hm).1) ⟨hA0,by omega⟩ ⟨hw,cf.1⟩ (by omega)
 refine aEk ?_
 unfold aQ
 refine aG (show fV.pre _ _ _=true from hms) (bR (aG (show cQ.pre _ _ _=true from xP hms) (bR ?_)))
 show Wp (if decide ((cN (mW x1 x2) x2.2.2.2.2.2.1 x2.2.2.2.2.1).1=1)=true then some ((x1,()),(mK 1 (cN (mW x1 x2) x2.2.2.2.2.2.1 x2.2.2.2.2.1).2,())) else _) (fun r=>(r.1.1,r.2.1)=oB x0 x1 x2)
 unfold oB
 refine cF (fun c1=>?_) fun c1=>?_
 . rw[Za] at c1;rw[if_pos c1];exact aH rfl
 rw[Za] at c1;rw[if_neg c1]
 refine cF (fun c2=>?_) fun c2=>?_
 . rw[Za] at c2
   rw[if_pos (show(cN (mW x1 x2) x2.2.2.2.2.2.1 x2.2.2.2.2.1).1=2 from c2)];exact aH rfl
 rw[Za] at c2;rw[if_neg (show ¬(cN (mW x1 x2) x2.2.2.2.2.2.1 x2.2.2.2.2.1).1=2 from c2)]
 refine cF (fun c3=>?_) fun c3=>?_
 . rw[Za] at c3
   rw[if_pos (show(cN (mW x1 x2) x2.2.2.2.2.2.1 x2.2.2.2.2.1).1=3 from c3)];exact aH rfl
 rw[Za] at c3;rw[if_neg (show ¬(cN (mW x1 x2) x2.2.2.2.2.2.1 x2.2.2.2.2.1).1=3 from c3)]
 refine cF (fun c4=>?_) fun c4=>?_
 . rw[Za] at c4
   rw[if_pos (show(cN (mW x1 x2) x2.2.2.2.2.2.1 x2.2.2.2.2.1).1=4 from c4)];exact aH rfl
 rw[Za] at c4;rw[if_neg (show ¬(cN (mW x1 x2) x2.2.2.2.2.2.1 x2.2.2.2.2.1).1=4 from c4)]
 refine aG (Zd hA0) (aG (Zd hAl) (aG (show jY.pre (fP x1 x2) _ _ _ _=true from(aFt hr).1) (bR ?_)))
 show Wp (if(!(mY x0 x1 x2).2.2)=true then _ else _) _
 cases hb:(mY x0 x1 x2).2.2
 . exact aG rfl (aH rfl)
 refine eG (by decide) (aG (Zd hA0) (aG (Zd hAl) (aG (show jK.pre (mW x1 x2) _ _ _ _=true from xP hms) (bR (aG ?_ (bR (aH rfl)))))))
 show(uY x1.2.1&&bQ (iP (mW x1 x2) x0.2.1 x2.2.2.2.2.2.1 x2.2.2.2.2.1 (mY x0 x1 x2).2.1).2.2.2.2.1)=true
 rw[hms,aCx];rfl
 have:=hmk.1.1.2.2.2.2.2.2.2.2.1
 show(jS _ _ _).2.2.2.2.1.length<=1000
 omega
end lT
def fJ(k:bB)(s:aP)(c:fQ):bB×aF:=sA s k c
namespace fJ
noncomputable def pre(k:bB)(s:aP)(c:fQ):Bool:=B (yB s k c/\c.2.2.2.1<s.1)
abbrev wf(x0:bB)(x1:aP)(x2:fQ):Prop:=iM [(.ref zk1 .o),(.val vY .f),(.val wN .f)] (x0,(x1,(x2,())))
noncomputable def aQ(x0:bB)(x1:aP)(x2:fQ):Option ((bB×Unit)×uW):=
 if(decide (x2.2.2.1=(1:Int)))=true then
 if(lT.pre x0 x1 x2)=true then
 letB (lT x0 x1 x2) fun v1=>
 some ((v1.1,()),(v1.2,()))
 else
 none
 else
 if(decide (x2.2.2.1=(2:Int)))=true then
 if(decide ((0:Int)<=x2.2.2.2.1))=true then
 if(decide (x2.2.2.2.1<((length x0.1:Nat):Int)))=true then
 if(jD.pre (List.getD x0.1 (Int.toNat x2.2.2.2.1) mQ) x2.2.2.2.2.1)=true then
 letB (jA (List.getD x0.1 (Int.toNat x2.2.2.2.1) mQ) x2.2.2.2.2.1) fun v2=>
 if(decide (v2.2=(1:Int)))=true then
 some ((x0,()),(((6:Int),mP),()))
 else
 if(decide (v2.2=(2:Int)))=true then
 some ((x0,()),(((7:Int),mP),()))
 else
 some ((x0,()),(((0:Int),(v2.1.1,(v2.1.2.1,(v2.1.2.2.1,())))),()))
 else
 none
 else
 none
 else
 none
 else
 if(decide (x2.2.2.1=(3:Int)))=true then
 if(fV.pre x0.2.1 x2.2.2.2.1 x2.1)=true then
 letB (jS x0.2.1 x2.2.2.2.1 x2.1) fun v3=>
 if(decide (x2.2.2.2.2.1<=v3.2.2.1))=true then
 some ((x0,()),(((4:Int),(v3.2.2.1,(([]:List UInt8),(([]:List UInt8),())))),()))
 else
 if(fZ.pre x0.2.1 (x2.2.2.2.1,(x2.1,(x2.2.2.2.2.1,((-1:Int),(([]:List bS),()))))))=true then
 letB (nB x0.2.1 (x2.2.2.2.1,(x2.1,(x2.2.2.2.2.1,((-1:Int),(([]:List bS),())))))) fun v4=>
 some (((x0.1,(v4,x0.2.2)),()),(((0:Int),(x2.2.2.2.2.1,(([]:List UInt8),(([]:List UInt8),())))),()))
 else
 none
 else
 none
 else
 if(decide (x2.2.2.1=(9:Int)))=true then
 if(decide ((0:Int)<=x2.2.2.2.1))=true then
 if(decide (x2.2.2.2.1<((length x0.1:Nat):Int)))=true then
 if(iW.pre (List.getD x0.1 (Int.toNat x2.2.2.2.1) mQ) x1.2.2.1 x1.2.2.2.1)=true then
 if(decide ((0:Int)<=x2.2.2.2.1))=true then
 if(decide (x2.2.2.2.1<((length x0.1:Nat):Int)))=true then
 if(decide ((0:Int)<=x2.2.2.2.1))=true then
 if(decide (x2.2.2.2.1<((length (List.modify x0.1 (Int.toNat x2.2.2.2.1) (fun z=>(jN (List.getD x0.1 (Int.toNat x2.2.2.2.1) mQ) x1.2.2.1 x1.2.2.2.1))):Nat):Int)))=true then
 some ((((List.modify x0.1 (Int.toNat x2.2.2.2.1) (fun z=>(jN (List.getD x0.1 (Int.toNat x2.2.2.2.1) mQ) x1.2.2.1 x1.2.2.2.1))),x0.2),()),(((0:Int),((List.getD (List.modify x0.1 (Int.toNat x2.2.2.2.1) (fun z=>(jN (List.getD x0.1 (Int.toNat x2.2.2.2.1) mQ) x1.2.2.1 x1.2.2.2.1))) (Int.toNat x2.2.2.2.1) mQ).1,(([]:List UInt8),(([]:List UInt8),())))),()))
 else
 none
 else
 none
 else
 none
 else
 none
 else
 none
 else
 none
 else
 none
 else
 if(decide ((0:Int)<=x2.2.2.2.1))=true then
 if(decide (x2.2.2.2.1<((length x0.1:Nat):Int)))=true then
 if(iV.pre (List.getD x0.1 (Int.toNat x2.2.2.2.1) mQ) x1.2.2.1)=true then
 if(decide ((0:Int)<=x2.2.2.2.1))=true then
 if(decide (x2.2.2.2.1<((length x0.1:Nat):Int)))=true then
 if(decide ((0:Int)<=x2.2.2.2.1))=true then
 if(decide (x2.2.2.2.1<((length (List.modify x0.1 (Int.toNat x2.2.2.2.1) (fun z=>(jR (List.getD x0.1 (Int.toNat x2.2.2.2.1) mQ) x1.2.2.1))):Nat):Int)))=true then
 some ((((List.modify x0.1 (Int.toNat x2.2.2.2.1) (fun z=>(jR (List.getD x0.1 (Int.toNat x2.2.2.2.1) mQ) x1.2.2.1))),x0.2),()),(((0:Int),((List.getD (List.modify x0.1 (Int.toNat x2.2.2.2.1) (fun z=>(jR (List.getD x0.1 (Int.toNat x2.2.2.2.1) mQ) x1.2.2.1))) (Int.toNat x2.2.2.2.1) mQ).1,(([]:List UInt8),(([]:List UInt8),())))),()))
 else
 none
 else
 none
 else
 none
 else
 none
 else
 none
 else
 none
 else
 none
theorem eq(x1:bB)(x0:aP)(x2:fQ)(_:wf x1 x0 x2)(hp:pre x1 x0 x2=true):aQ x1 x0 x2=some (((fJ x1 x0 x2).1,()),((fJ x1 x0 x2).2,())):=by
 obtain⟨⟨hk,hc,hw⟩,hA⟩:=cP.1 hp
 obtain⟨⟨h0,h1,h2,h3,h4,h5,h6⟩,k1,k2,k3,k4,k5⟩:=hk
 have hs:=fT h0
 have cf:=jF hc hw
 have hA0:=cf.2.2.2.1.1
 have hAl:x2.2.2.2.1<(x1.1.length:Int):=by omega
 have hn:x2.2.2.2.1.toNat<x1.1.length:=by omega
 have hr:fI (fP x1 x2)=true:=k1 _ (iO hn _)
 have hrs:=(aFt hr).2
 have hms:=aER (by omega) k5
 have ml:∀g:bW,decide (x2.2.2.2.1<(((x1.1.modify x2.2.2.2.1.toNat (fun _=>g)).length:Nat):Int))=true:=fun g=>by rw[List.length_modify];exact Zd hAl
 refine aEk ?_
 unfold aQ
 show Wp (α:=(bB×Unit)×uW) _ (fun r=>(r.1.1,r.2.1)=sA x0 x1 x2)
 unfold sA
 refine cF (fun c1=>?_) fun c1=>?_
 . rw[Za] at c1;rw[if_pos c1]
   exact aG (show lT.pre x1 x0 x2=true from hp) (bR (aH rfl))
 rw[Za] at c1;rw[if_neg c1]
 refine cF (fun c3=>?_) fun c3=>?_
 . rw[Za] at c3;rw[if_neg (show ¬x2.2.2.1=3 by omega),if_pos c3]
   refine aG (Zd hA0) (aG (Zd hAl) (aG (show jD.pre (fP x1 x2) _=true from hrs) (bR (cF (fun d1=>?_) fun d1=>?_))))
   . rw[Za] at d1;rw[if_pos (show(jA (fP x1 x2) x2.2.2.2.2.1).2=1 from d1)];exact aH rfl
   rw[Za] at d1;rw[if_neg (show ¬(jA (fP x1 x2) x2.2.2.2.2.1).2=1 from d1)]
   refine cF (fun d2=>?_) fun d2=>?_
   . rw[Za] at d2;rw[if_pos (show(jA (fP x1 x2) x2.2.2.2.2.1).2=2 from d2)];exact aH rfl
   rw[Za] at d2;rw[if_neg (show ¬(jA (fP x1 x2) x2.2.2.2.2.1).2=2 from d2)]
   exact aH rfl
 rw[Za] at c3
 refine cF (fun c2=>?_) fun c2=>?_
 . rw[Za] at c2;rw[if_pos c2]
   refine aG (show fV.pre _ _ _=true from hms) (bR ?_)
   show Wp (if decide (x2.2.2.2.2.1<=(mW x1 x2).2.2.1)=true then some ((x1,()),(mK 4 (mW x1 x2).2.2.1,())) else _) (fun r=>(r.1.1,r.2.1)=oM x1 x2)
   unfold oM
   refine cF (fun d1=>?_) fun d1=>?_
   . rw[Za] at d1;rw[if_pos d1];exact aH rfl
   . rw[Za] at d1;rw[if_neg d1]
     exact aG (show(uY x1.2.1&&bQ ([]:List bS))=true by rw[hms];rfl) (bR (aH rfl))
 rw[Za] at c2;rw[if_neg c2,if_neg c3]
 refine cF (fun c4=>?_) fun c4=>?_
 . rw[Za] at c4;rw[if_pos c4]
   refine aG (Zd hA0) (aG (Zd hAl) (aG (show iW.pre (fP x1 x2) _ _=true from hrs) (aG (Zd hA0) (aG (Zd hAl) (aG (Zd hA0) (aG (ml _) (aH ?_)))))))
   show(yT x1 x2.2.2.2.1 (jN (fP x1 x2) x0.2.2.1 x0.2.2.2.1),mK 0 ((x1.1.modify x2.2.2.2.1.toNat (fun _=>jN (fP x1 x2) x0.2.2.1 x0.2.2.2.1)).getD x2.2.2.2.1.toNat mQ).1)=_
   rw[lS hn]
 . rw[Za] at c4;rw[if_neg c4]
   refine aG (Zd hA0) (aG (Zd hAl) (aG (show iV.pre (fP x1 x2) _=true from hrs) (aG (Zd hA0) (aG (Zd hAl) (aG (Zd hA0) (aG (ml _) (aH ?_)))))))
   show(yT x1 x2.2.2.2.1 (jR (fP x1 x2) x0.2.2.1),mK 0 ((x1.1.modify x2.2.2.2.1.toNat (fun _=>jR (fP x1 x2) x0.2.2.1)).getD x2.2.2.2.1.toNat mQ).1)=_
   rw[lS hn]
end fJ
def dB(k:bB)(c:fQ):bB×aF:=nL ((k.1.length:Int),((0:Int),pV)) k c
theorem aCC{s:aP}{k:bB}{c:fQ}(h:kD s k):dB k c=nL s k c:=by
 unfold dB nL
 rw[show((k.1.length:Int),((0:Int),pV)).1=s.1 from h.1.2.1]
namespace dB
noncomputable def pre(k:bB)(c:fQ):Bool:=B ((∃s,yB s k c)/\c.2.2.2.1<2)
abbrev wf(x0:bB)(x1:fQ):Prop:=iM [(.ref zk1 .o),(.val wN .f)] (x0,(x1,()))
noncomputable def aQ(x0:bB)(x1:fQ):Option ((bB×Unit)×uW):=
 if(decide ((0:Int)<=x1.2.2.2.1))=true then
 if(decide (x1.2.2.2.1<((length x0.2.2.1:Nat):Int)))=true then
 if(decide (x1.2.2.1=(4:Int)))=true then
 if(hN.pre (List.getD x0.2.2.1 (Int.toNat x1.2.2.2.1) qX) x1.1 x0.2.2.2.1)=true then
 some (((x0.1,(x0.2.1,((List.modify x0.2.2.1 (Int.toNat x1.2.2.2.1) (fun z=>(iJ (List.getD x0.2.2.1 (Int.toNat x1.2.2.2.1) qX) x1.1 x0.2.2.2.1))),x0.2.2.2))),()),(((0:Int),((List.getD (List.modify x0.2.2.1 (Int.toNat x1.2.2.2.1) (fun z=>(iJ (List.getD x0.2.2.1 (Int.toNat x1.2.2.2.1) qX) x1.1 x0.2.2.2.1))) (Int.toNat x1.2.2.2.1) qX).1,(([]:List UInt8),(([]:List UInt8),())))),()))
 else
 none
 else
 if(decide (x1.2.2.1=(5:Int)))=true then
 if(iG.pre (List.getD x0.2.2.1 (Int.toNat x1.2.2.2.1) qX) x1.1)=true then
 some (((x0.1,(x0.2.1,((List.modify x0.2.2.1 (Int.toNat x1.2.2.2.1) (fun z=>(fD (List.getD x0.2.2.1 (Int.toNat x1.2.2.2.1) qX) x1.1))),x0.2.2.2))),()),(((0:Int),((List.getD (List.modify x0.2.2.1 (Int.toNat x1.2.2.2.1) (fun z=>(fD (List.getD x0.2.2.1 (Int.toNat x1.2.2.2.1) qX) x1.1))) (Int.toNat x1.2.2.2.1) qX).1,(([]:List UInt8),(([]:List UInt8),())))),()))
 else
 none
 else
 if(decide (x1.2.2.1=(6:Int)))=true then
 if(hY.pre (List.getD x0.2.2.1 (Int.toNat x1.2.2.2.1) qX) x1.1 (List.getD x0.2.2.1 (Int.toNat x1.2.2.2.1) qX).1 x1.2.2.2.2.1 x1.2.2.2.2.2.1)=true then
 letB (gN (List.getD x0.2.2.1 (Int.toNat x1.2.2.2.1) qX) x1.1 (List.getD x0.2.2.1 (Int.toNat x1.2.2.2.1) qX).1 x1.2.2.2.2.1 x1.2.2.2.2.2.1) fun v1=>
 if(!v1.2)=true then
 some ((x0,()),(((9:Int),mP),()))
 else
 some (((x0.1,(x0.2.1,((List.modify x0.2.2.1 (Int.toNat x1.2.2.2.1) (fun z=>v1.1)),x0.2.2.2))),()),(((0:Int),(x1.2.2.2.2.2.1,(([]:List UInt8),(([]:List UInt8),())))),()))
 else
 none
 else
 if(decide (((length x0.1:Nat):Int)<=x1.2.2.2.2.1))=true then
 some ((x0,()),(((5:Int),mP),()))
 else
 if(decide ((0:Int)<=x1.2.2.2.2.1))=true then
 if(decide (x1.2.2.2.2.1<((length (List.getD x0.2.2.1 (Int.toNat x1.2.2.2.1) qX).2.2.2.1:Nat):Int)))=true then
 some ((x0,()),(((0:Int),((List.getD (List.getD x0.2.2.1 (Int.toNat x1.2.2.2.1) qX).2.2.2.1 (Int.toNat x1.2.2.2.2.1) (0:Int)),(([]:List UInt8),(([]:List UInt8),())))),()))
 else
 none
 else
 none
 else
 none
 else
 none
theorem eq(x1:bB)(x2:fQ)(_:wf x1 x2)(hp:pre x1 x2=true):aQ x1 x2=some (((dB x1 x2).1,()),((dB x1 x2).2,())):=by
 obtain⟨⟨x0,hk,hc,hw⟩,hA⟩:=cP.1 hp
 rw[aCC hk]
 obtain⟨⟨h0,h1,h2,h3,h4,h5,h6⟩,k1,k2,k3,k4,k5⟩:=hk
 have hs:=fT h0
 have cf:=jF hc hw
 have hA0:=cf.2.2.2.1.1
 have hAl:x2.2.2.2.1<(x1.2.2.1.length:Int):=by omega
 have hn:x2.2.2.2.1.toNat<x1.2.2.1.length:=by omega
 have hg:iI (kB x1 x2) x0.1=true:=k2 _ (iO hn _)
 have hgs:=(xO hg hs.2.1).1
 have ho:=(gQ.1 hg).1.2.1
 refine aEk ?_
 unfold aQ nL
 refine aG (Zd hA0) (aG (Zd hAl) ?_)
 show Wp (if decide (x2.2.2.1=4)=true then(if hN.pre (kB x1 x2) x2.1 x1.2.2.2.1=true then _ else none) else _) _
 by_cases c1:x2.2.2.1=4
 . rw[if_pos c1]
   refine aG (Zd c1) (aG (show hN.pre _ _ _=true from hgs) (aH ?_))
   show(rA x1 x2.2.2.2.1 (iJ (kB x1 x2) x2.1 x1.2.2.2.1),mK 0 ((x1.2.2.1.modify x2.2.2.2.1.toNat (fun _=>iJ (kB x1 x2) x2.1 x1.2.2.2.1)).getD x2.2.2.2.1.toNat qX).1)=_
   rw[lS hn]
 rw[if_neg c1]
 refine eG (by rw[Za];exact c1) ?_
 by_cases c2:x2.2.2.1=5
 . rw[if_pos c2]
   refine aG (Zd c2) (aG (show iG.pre _ _=true from hgs) (aH ?_))
   show(rA x1 x2.2.2.2.1 (fD (kB x1 x2) x2.1),mK 0 ((x1.2.2.1.modify x2.2.2.2.1.toNat (fun _=>fD (kB x1 x2) x2.1)).getD x2.2.2.2.1.toNat qX).1)=_
   rw[lS hn]
 rw[if_neg c2]
 refine eG (by rw[Za];exact c2) ?_
 by_cases c3:x2.2.2.1=6
 . rw[if_pos c3]
   refine aG (Zd c3) (aG (show hY.pre (kB x1 x2) _ _ _ _=true from hgs) (bR ?_))
   show Wp (if(!(gN (kB x1 x2) x2.1 (kB x1 x2).1 x2.2.2.2.2.1 x2.2.2.2.2.2.1).2)=true then _ else _) _
   cases h:(gN (kB x1 x2) x2.1 (kB x1 x2).1 x2.2.2.2.2.1 x2.2.2.2.2.2.1).2
   . exact aG rfl (aH rfl)
   . exact eG (by decide) (aH rfl)
 rw[if_neg c3]
 refine eG (by rw[Za];exact c3) ?_
 by_cases c4:x0.1<=x2.2.2.2.2.1
 . rw[if_pos c4]
   exact aG (Zd (by omega)) (aH rfl)
 . rw[if_neg c4]
   exact eG (by rw[Za];omega) (aG (Zd cf.2.2.2.2.1.1) (aG (Zd (show x2.2.2.2.2.1<((kB x1 x2).2.2.2.1.length:Int) by omega)) (aH rfl)))
end dB
def jT(k:bB)(s:aP)(c:fQ):bB×aF:=mH s k c
end Go.Aw.Pl
