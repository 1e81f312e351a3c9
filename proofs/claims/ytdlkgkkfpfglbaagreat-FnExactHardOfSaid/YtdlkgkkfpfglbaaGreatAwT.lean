/-
 Data that comes back from a call becomes values.
-/
import Derived.Test.YtdlkgkkfpfglbaaGreatAwS
namespace Go.Aw
structure aEi(φ φ':Nat->dJ)(ψ ψ':Nat->Nat->Prop)(w:World)(l:List (Nat×Obj))(n n':Nat)(F:Nat->Prop):Prop where
 le:n<=n'
 hφ:∀o,o<n\/n'<=o->φ' o=φ o
 hψ:∀o,o<n\/n'<=o->ψ' o=ψ o
 keys:∀p∈l,n<=p.1/\p.1<n'
 nod:(l.map (·.1)).Nodup
 arr:∀p∈l,∃(t:TypeId) (e:Ty) (xs:List e.D),p.2=.arr t e xs/\(φ' p.1).e=e/\qW w (.sl t e) xs [(φ' p.1).hdr] (ψ' p.1)
 fp:∀p∈l,∀q,ψ' p.1 q->F q
 dis:∀p∈l,∀p'∈l,p.1≠p'.1->∀q,ψ' p.1 q->¬ψ' p'.1 q
theorem aEi.none{φ:Nat->dJ}{ψ:Nat->Nat->Prop}{w:World}{n:Nat}{F:Nat->Prop}:aEi φ φ ψ ψ w [] n n F:=
 ⟨Nat.le_refl _,fun _ _=>rfl,fun _ _=>rfl,(fun p hp=>by cases hp),(by simp),(fun p hp=>by cases hp),(fun p hp=>by cases hp),(fun p hp=>by cases hp)⟩
theorem aEi.app{φ φ1 φ2:Nat->dJ}{ψ ψ1 ψ2:Nat->Nat->Prop}{w:World}{l r:List (Nat×Obj)}{n n1 n2:Nat}{F1 F2 F:Nat->Prop}(h:aEi φ φ1 ψ ψ1 w l n n1 F1)(g:aEi φ1 φ2 ψ1 ψ2 w r n1 n2 F2)
 (hd:∀q,F1 q->¬F2 q) (h1:∀q,F1 q->F q) (h2:∀q,F2 q->F q):aEi φ φ2 ψ ψ2 w (l++r) n n2 F:=by
 have hl:=h.le
 have gl:=g.le
 have e1:∀p∈l,φ2 p.1=φ1 p.1/\ψ2 p.1=ψ1 p.1:=fun p hp=>⟨g.hφ _ (.inl (h.keys p hp).2),g.hψ _ (.inl (h.keys p hp).2)⟩
 refine⟨by omega,fun o ho=>?_,fun o ho=>?_,fun p hp=>?_,?_,fun p hp=>?_,fun p hp q hq=>?_,fun p hp p' hp' hne q hq hq'=>?_⟩
 . rw[g.hφ o (by omega),h.hφ o (by omega)]
 . rw[g.hψ o (by omega),h.hψ o (by omega)]
 . rcases Zp.1 hp with hp|hp
   . have:=h.keys p hp;omega
   . have:=g.keys p hp;omega
 . rw[List.map_append,List.nodup_append]
   refine⟨h.nod,g.nod,fun a ha b hb=>?_⟩
   obtain⟨p,hp,rfl⟩:=List.mem_map.1 ha
   obtain⟨p',hp',rfl⟩:=List.mem_map.1 hb
   have:=h.keys p hp
   have:=g.keys p' hp'
   omega
 . rcases Zp.1 hp with hp|hp
   . obtain⟨t,e,xs,k1,k2,k3⟩:=h.arr p hp
     refine⟨t,e,xs,k1,?_,?_⟩
     . rw[(e1 p hp).1];exact k2
     . rw[(e1 p hp).1,(e1 p hp).2];exact k3
   . exact g.arr p hp
 . rcases Zp.1 hp with hp|hp
   . rw[(e1 p hp).2] at hq;exact h1 q (h.fp p hp q hq)
   . exact h2 q (g.fp p hp q hq)
 . rcases Zp.1 hp with hp|hp<;>rcases Zp.1 hp' with hp'|hp'
   . rw[(e1 p hp).2] at hq;rw[(e1 p' hp').2] at hq';exact h.dis p hp p' hp' hne q hq hq'
   . rw[(e1 p hp).2] at hq;exact hd q (h.fp p hp q hq) (g.fp p' hp' q hq')
   . rw[(e1 p' hp').2] at hq';exact hd q (h.fp p' hp' q hq') (g.fp p hp q hq)
   . exact g.dis p hp p' hp' hne q hq hq'
structure Vl(P:Program)(φ:Nat->dJ)(w:World)(Av:Nat->Prop)(T:Ty)(c:CT)(l:List (Nat×Obj))(cs:List Value):Prop where
 cells:∀al,c.cells P φ w Av al cs
 fits:c.fits T=true
 df:c.isDef=true
 st:c.isSt=T.isSt
 named:∀q∈c.named,q∈l.map (·.1)
 deep:c.deep=[]
theorem Vl.agr{P:Program}{φ φ':Nat->dJ}{w:World}{Av:Nat->Prop}{T:Ty}{c:CT}{l:List (Nat×Obj)}{cs:List Value}(h:Vl P φ w Av T c l cs)(hφ:∀p∈l,φ' p.1=φ p.1):Vl P φ' w Av T c l cs:=
 ⟨fun al=>lK (al:=al) (al':=al) (fun _ h=>h) (fun _ _=>rfl) c (fun o ho=>by
  obtain⟨p,hp,rfl⟩:=List.mem_map.1 (h.named o ho)
  exact hφ p hp) (fun o ho=>by rw[h.deep] at ho;cases ho) (h.cells al),h.fits,h.df,h.st,h.named,h.deep⟩
section
variable {P:Program} {w:World} {Av:Nat->Prop}
theorem tQ{φ:Nat->dJ}{T:Ty}{x:T.D}{cs:List Value}(h:vK w Av T x cs):Vl P φ w Av T (.dat T x) [] cs:=
 ⟨fun _=>h,by simp[CT.fits],rfl,rfl,(fun q hq=>by cases hq),rfl⟩
theorem yY:(T:Ty)->(x:T.D)->(n:Nat)->{cs:List Value}->{F:Nat->Prop}->(φ:Nat->dJ)->(ψ:Nat->Nat->Prop)->qW w T x cs F->
 ∃φ' ψ',aEi φ φ' ψ ψ' w (nH T x n).objs n (nH T x n).n F/\Vl P φ' w Av T (nH T x n).c (nH T x n).objs cs
 |.int k,x,n,cs,F,φ,ψ,h=>⟨φ,ψ,.none,tQ ⟨h.1,h.2.1⟩⟩
 |.bool,x,n,cs,F,φ,ψ,h=>⟨φ,ψ,.none,tQ h.1⟩
 |.str,x,n,cs,F,φ,ψ,h=>⟨φ,ψ,.none,tQ ⟨h.1,h.2.1⟩⟩
 |.op,x,n,cs,F,φ,ψ,h=>h.elim
 |.unit,x,n,cs,F,φ,ψ,h=>⟨φ,ψ,.none,tQ h.1⟩
 |.sl t e,xs,n,cs,F,φ,ψ,h=>by
  obtain⟨hdr,rfl⟩:=aES (nL _ h)
  have hone:hdr.oneCell'=true:=sL _ (jO (Av:=fun _=>True) _ (fun _ _=>trivial) h) _ (by simp)
  refine⟨fup φ n (rP (φ n) hdr e),fup ψ n F,⟨Nat.le_succ n,fun o ho=>sU (by simp only[nH] at ho;omega),fun o ho=>sU (by simp only[nH] at ho;omega),?_,by simp[nH],?_,?_,?_⟩,?_⟩
  . intro p hp
    simp only[nH,Zq] at hp ⊢
    subst hp;exact⟨Nat.le_refl _,Nat.lt_succ_self _⟩
  . intro p hp
    simp only[nH,Zq] at hp
    subst hp
    exact⟨t,e,xs,rfl,by simp[fH,rP],by simp only[fH,rP];exact h⟩
  . intro p hp q hq
    simp only[nH,Zq] at hp
    subst hp
    simpa [fH] using hq
  . intro p hp p' hp' hne
    simp only[nH,Zq] at hp hp'
    subst hp;subst hp';exact absurd rfl hne
  . exact⟨fun al=>⟨by simp[fH,rP],by simpa [fH,rP] using hone⟩,rfl,rfl,rfl,by simp[nH,CT.named],rfl⟩
 |.pair a b,x,n,cs,F,φ,ψ,h=>by
  simp only[nH,Zi]
  split
  . rename_i hf
    exact⟨φ,ψ,.none,tQ (jO _ (fun q hq=>(sD _ hf h q hq).elim) h)⟩
  . obtain⟨c1,c2,F1,F2,rfl,hF,hd,h1,h2⟩:=h
    obtain⟨φ1,ψ1,m1,v1⟩:=yY a x.1 n φ ψ h1
    obtain⟨φ2,ψ2,m2,v2⟩:=yY b x.2 (nH a x.1 n).n φ1 ψ1 h2
    exact⟨φ2,ψ2,m1.app m2 hd (fun q hq=>(hF q).2 (.inl hq)) (fun q hq=>(hF q).2 (.inr hq)),pairVl (v1.agr fun p hp=>m2.hφ _ (.inl (m1.keys p hp).2)) v2⟩
where
 pairVl {φ:Nat->dJ} {a b:Ty} {c d:CT} {l r:List (Nat×Obj)} {c1 c2:List Value} (v1:Vl P φ w Av a c l c1) (v2:Vl P φ w Av b d r c2):Vl P φ w Av (.pair a b) (.pair c d) (l++r) (c1++c2):=
  ⟨fun al=>⟨c1,c2,rfl,v1.cells al,v2.cells al⟩,by simp[CT.fits,v1.fits,v2.fits],rfl,rfl,fun q hq=>by
   simp only[CT.named,Zp] at hq
   rw[List.map_append,Zp]
   exact hq.imp (v1.named q) (v2.named q),by simp[CT.deep,v1.deep,v2.deep]⟩
theorem zI:(m:Md)->(T:Ty)->(x:T.D)->(n:Nat)->{cs:List Value}->{F:Nat->Prop}->(φ:Nat->dJ)->(ψ:Nat->Nat->Prop)->rdM w Av m T x cs F->
 ∃φ' ψ',aEi φ φ' ψ ψ' w (nM m T x n).objs n (nM m T x n).n F/\Vl P φ' w Av T (nM m T x n).c (nM m T x n).objs cs
 |.f,T,x,n,cs,F,φ,ψ,h=>⟨φ,ψ,.none,tQ h.1⟩
 |.o,T,x,n,cs,F,φ,ψ,h=>yY T x n φ ψ h
 |.np _,T,x,n,cs,F,φ,ψ,h=>⟨φ,ψ,.none,tQ h.2.1⟩
 |.pair m k,T,x,n,cs,F,φ,ψ,h=>by
  cases T with
  |pair a b=>
   obtain⟨c1,c2,F1,F2,rfl,hF,hd,h1,h2⟩:=h
   obtain⟨φ1,ψ1,m1,v1⟩:=zI m a x.1 n φ ψ h1
   obtain⟨φ2,ψ2,m2,v2⟩:=zI k b x.2 (nM m a x.1 n).n φ1 ψ1 h2
   exact⟨φ2,ψ2,m1.app m2 hd (fun q hq=>(hF q).2 (.inl hq)) (fun q hq=>(hF q).2 (.inr hq)),yY.pairVl (v1.agr fun p hp=>m2.hφ _ (.inl (m1.keys p hp).2)) v2⟩
  |int _=>exact⟨φ,ψ,.none,tQ h.2.1⟩
  |bool=>exact⟨φ,ψ,.none,tQ h.2.1⟩
  |str=>exact⟨φ,ψ,.none,tQ h.2.1⟩
  |op=>exact⟨φ,ψ,.none,tQ h.2.1⟩
  |sl _ _=>exact⟨φ,ψ,.none,tQ h.2.1⟩
  |unit=>exact⟨φ,ψ,.none,tQ h.2.1⟩
end
theorem aHR{w w':World}{U:Ty}{b' off':Nat}:(p:List qR)->(T:Ty)->(b off:Nat)->T.flat=true->rX w p T b off=some (U,b',off')->U.flat=true/\rX w' p T b off=some (U,b',off')
 |[],T,b,off,hf,h=>by
  simp only[rX,Zc,Prod.mk.injEq] at h ⊢
  obtain⟨rfl,rfl,rfl⟩:=h
  exact⟨hf,rfl,rfl,rfl⟩
 |.f k::p,T,b,off,hf,h=>by
  simp only[rX] at h ⊢
  cases hn:T.nth k with
  |none=>rw[hn] at h;cases h
  |some V=>
   rw[hn] at h
   exact aHR p V b _ (nth_flat T hf hn) h
 |.i n::p,T,b,off,hf,h=>by
  cases T<;>simp[rX] at h
  cases hf
where
 nth_flat:(T:Ty)->T.flat=true->{k:Nat}->{V:Ty}->T.nth k=some V->V.flat=true
 |.pair a b,hf,k,V,hn=>by
  simp only[Ty.flat,Zb] at hf
  cases k with
  |zero=>simp only[Ty.nth,Zc] at hn;subst hn;exact hf.1
  |succ k=>exact nth_flat b hf.2 hn
 |.int _,_,_,_,hn=>by cases hn
 |.bool,_,_,_,hn=>by cases hn
 |.str,_,_,_,hn=>by cases hn
 |.op,_,_,_,hn=>by cases hn
 |.sl _ _,_,_,_,hn=>by cases hn
 |.unit,_,_,_,hn=>by cases hn
theorem aHi{φ φ':Nat->dJ}{w w':World}{o:Nat}(hφ:φ' o=φ o)(hf:(φ o).e.flat=true):oE φ w φ' w' o:=by
 intro p U b off h
 cases p with
 |nil=>cases h
 |cons s p=>
  cases s with
  |f k=>cases h
  |i n=>
   unfold rC at h ⊢
   simp only[] at h ⊢
   rw[hφ]
   split at h
   . split at h
     . rename_i hlt
       rw[if_pos hlt]
       obtain⟨h1,h2⟩:=aHR (w':=w') p _ _ _ hf h
       exact⟨h2,fun t e hU=>by subst hU;cases h1⟩
     . cases h
   . cases h
end Go.Aw
