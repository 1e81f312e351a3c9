/-
 Values as data: read, handed over.
-/
import Derived.Test.YtdlkgkkfpfglbaaGreatAwI
namespace Go.Aw
theorem iJ{T U:Ty}{x:U.D}{y:T.D}{f:Nat->Option Obj}(h:(pZ T U x).ev f=some y):∃e:U=T,y=e▸x:=by
 unfold pZ at h
 split at h
 . rename_i he
   simp only[M.ev,Zc] at h
   exact⟨he,h.symm⟩
 . cases h
theorem dropTake_len{α:Type}{lo hi:Nat}{xs:List α}(h1:lo<=hi)(h2:hi<=xs.length):(bE lo hi xs).length=hi-lo:=by
 unfold bE;rw[Zr,Zs];omega
theorem zS{α:Type}{lo hi i:Nat}{xs:List α}{x:α}(h:(bE lo hi xs)[i]?=some x):i<hi-lo/\xs[lo+i]?=some x:=by
 unfold bE at h
 rcases Nat.lt_or_ge i (hi-lo) with hi'|hi'
 . rw[List.getElem?_take_of_lt hi',List.getElem?_drop] at h
   exact⟨hi',h⟩
 . rw[List.getElem?_take_eq_none hi'] at h;cases h
theorem aA8{w:World}{t:TypeId}{e:Ty}{xs:List e.D}{cs:List Value}{F:Nat->Prop}(h:qW w (.sl t e) xs cs F):xs.length<=maxLen:=by
 rcases h with⟨_,h,_⟩|⟨b,off,cap,c,E,fr,Fs,h1,h2,h3,h4,_⟩
 . rw[show xs=[] from h];exact Nat.zero_le _
 . exact Nat.le_trans h3 h4.1
theorem aGi{w:World}{t:TypeId}{e:Ty}{xs:List e.D}{hdr v:Value}{F:Nat->Prop}{lo hi:Nat}(h:qW w (.sl t e) xs [hdr] F)(hs:zN hdr e.sz lo hi v):
 lo<=hi/\hi<=xs.length/\∃F':Nat->Prop,qW w (.sl t e) (bE (α:=e.D) lo hi xs) [v] F'/\∀q,F' q->F q:=by
 rcases h with⟨h1,h2,h3⟩|⟨b,off,cap,c,E,fr,Fs,h1,h2,h3,h4,h5,h6,h7,h8,h9,h10⟩
 . simp only[List.cons.injEq,and_true] at h1
   subst h1
   obtain⟨rfl,rfl,rfl⟩:=hs
   have h2':xs=[]:=h2
   subst h2'
   exact⟨Nat.le_refl _,Nat.le_refl _,F,.inl ⟨rfl,rfl,h3⟩,fun _ h=>h⟩
 . simp only[List.cons.injEq,and_true] at h1
   subst h1
   obtain⟨h11,h12,cap',h13,h14,h15⟩:=hs
   have hlen:=dropTake_len (α:=e.D) h11 h12
   refine⟨h11,h12,fun q=>q=b\/∃i,i<hi-lo/\Fs (lo+i) q,?_,?_⟩
   . have hmul:(lo+cap')*e.sz<=cap*e.sz:=Nat.mul_le_mul_right _ h14
     rw[Nat.add_mul] at hmul
     rcases h15 with h15|⟨h15,h16⟩
     . refine .inr ⟨b,off+lo*e.sz,cap',c,E,fr,fun i=>Fs (lo+i),by rw[hlen,h15],h2,by rw[hlen];exact h13,?_,by omega,tC h6 (by omega) (by omega),?_,?_,?_,?_⟩
       . exact⟨Nat.le_trans (by omega) h4.1,h4.2⟩
       . intro q;rw[hlen]
       . intro i hi;rw[hlen] at hi;exact h8 (lo+i) (by omega)
       . intro i j q hi hj hij;rw[hlen] at hi hj;exact h9 (lo+i) (lo+j) q (by omega) (by omega) (by omega)
       . intro i x hx
         obtain⟨hi,hx⟩:=zS hx
         rw[Nat.add_assoc,<-Nat.add_mul]
         exact h10 (lo+i) x hx
     . subst h15
       have h0:hi-lo=0:=by omega
       refine .inr ⟨b,off,0,c,E,fr,fun i=>Fs (lo+i),by rw[hlen,h16],h2,by rw[hlen];exact h13,?_,by omega,fun j h1 h2=>by omega,?_,?_,?_,?_⟩
       . exact⟨Nat.zero_le _,h4.2⟩
       . intro q;rw[hlen]
       . intro i hi;rw[hlen] at hi;omega
       . intro i j q hi;rw[hlen] at hi;omega
       . intro i x hx
         obtain⟨hi,_⟩:=zS hx
         omega
   . rintro q (h|⟨i,hi,h⟩)
     . exact(h7 q).2 (.inl h)
     . exact(h7 q).2 (.inr ⟨lo+i,by omega,h⟩)
section
variable {cx:Cx} {φ:Nat->dJ} {ψ:Nat->Nat->Prop} {Av:Nat->Prop} {objs:List (Nat×Obj)} {w:World}
def Of(φ:Nat->dJ)(ψ:Nat->Nat->Prop)(objs:List (Nat×Obj))(ids:List Nat)(b:Nat):Prop:=∃o x,o∈ids/\find objs o=some x/\kL φ ψ o x b
theorem kG{φ:Nat->dJ}{ψ:Nat->Nat->Prop}{objs:List (Nat×Obj)}{l r:List Nat}{b:Nat}:Of φ ψ objs (l++r) b↔(Of φ ψ objs l b\/Of φ ψ objs r b):=by
 constructor
 . rintro⟨o,x,h,h'⟩
   rcases Zp.1 h with h|h
   . exact .inl ⟨o,x,h,h'⟩
   . exact .inr ⟨o,x,h,h'⟩
 . rintro(⟨o,x,h,h'⟩|⟨o,x,h,h'⟩)
   . exact⟨o,x,Zp.2 (.inl h),h'⟩
   . exact⟨o,x,Zp.2 (.inr h),h'⟩
theorem aHt(h:iH cx φ ψ Av objs w){o:Nat}{p:List qR}{t':TypeId}{e':Ty}{xs:List e'.D}{cs:List Value}(ho:find objs o=some (.arr t' e' xs))
 (hc:(CT.bor o p).cells cx.P φ w Av (bH objs) cs):∃t e,∃ys:List e.D,(Ty.sl t' e').get p xs=⟨.sl t e,ys⟩/\∃F:Nat->Prop,qW w (.sl t e) ys cs F/\∀q,F q->ψ o q:=by
 obtain⟨v,rfl,_,h2⟩:=hc
 obtain⟨t,e,b,off,h3,h4⟩:=h2 ⟨t',e',xs,ho⟩
 obtain⟨he,hr⟩:=h.reps o _ ho
 obtain⟨y,F',c1,E1,fr1,g1,g2,g3,g4,g5,_⟩:=aEl he hr h3
 refine⟨t,e,y,g1,F',?_,g5⟩
 rw[pV g2] at h4
 simp only[Option.bind_some] at h4
 have:fX c1.toList off (Ty.sl t e).sz=[v]:=by
  have hlt:=jD h4
  rw[Zm hlt] at h4
  simp only[Zc] at h4
  unfold fX;simp only[Ty.sz]
  rw[Zn hlt,h4];rfl
 rw[<-this];exact g4
theorem sQ(h:iH cx φ ψ Av objs w):(T:Ty)->(c:CT)->{x:T.D}->{cs:List Value}->(oD T c).ev (find objs)=some x->c.cells cx.P φ w Av (bH objs) cs->
 vK w (fun b=>Av b\/Of φ ψ objs c.ids b) T x cs/\c.isSt=T.isSt:=by
 intro T c
 induction T generalizing c with
 |int k=>intro x cs he hc;exact one h he hc
 |bool=>intro x cs he hc;exact one h he hc
 |str=>intro x cs he hc;exact one h he hc
 |op=>intro x cs he hc;exact one h he hc
 |sl t e _=>
  intro x cs he hc
  cases c with
  |dat U y=>
   simp only[oD] at he
   obtain⟨rfl,rfl⟩:=iJ he
   exact⟨lG (fun b hb=>.inl hb) (fun _ _=>rfl) _ hc,rfl⟩
  |nil=>
   simp only[oD,M.ev,Zc] at he
   subst he
   exact⟨.inl ⟨hc,rfl⟩,rfl⟩
  |arr o=>
   simp only[oD,M.ev] at he
   split at he
   . rename_i t' e' xs ho
     obtain⟨heq,rfl⟩:=iJ he
     cases heq
     refine⟨?_,rfl⟩
     obtain⟨he',hr⟩:=h.reps o _ ho
     obtain⟨rfl,_⟩:=hc
     exact jO _ (fun b hb=>.inr ⟨o,_,by simp[CT.ids],ho,hb⟩) hr
   . cases he
  |sub o lo hi=>
   simp only[oD,M.ev] at he
   split at he
   . rename_i t' e' xs ho
     obtain⟨heq,rfl⟩:=iJ he
     cases heq
     refine⟨?_,rfl⟩
     obtain⟨he',hr⟩:=h.reps o _ ho
     obtain⟨v,rfl,hs⟩:=hc
     rw[he'] at hs
     obtain⟨_,_,F',hr',hF⟩:=aGi hr hs
     exact jO _ (fun b hb=>.inr ⟨o,_,by simp[CT.ids],ho,hF b hb⟩) hr'
   . cases he
  |bor o p=>
   simp only[oD,M.ev] at he
   split at he
   . rename_i t' e' xs ho
     obtain⟨t1,e1,ys,h1,F,h2,h3⟩:=aHt h ho hc
     rw[h1] at he
     obtain⟨heq,rfl⟩:=iJ he
     cases heq
     exact⟨jO _ (fun b hb=>.inr ⟨o,_,by simp[CT.ids],ho,h3 b hb⟩) h2,rfl⟩
   . cases he
  |undef=>cases he
  |skip=>cases he
  |unit=>cases he
  |bptr o p T=>cases he
  |eptr o p T=>cases he
  |dptr T x=>cases he
  |clo f c=>cases he
  |fn A B p g=>cases he
  |pair a b=>cases he
 |unit=>
  intro x cs he hc
  cases c with
  |dat U y=>
   simp only[oD] at he
   obtain⟨rfl,rfl⟩:=iJ he
   exact⟨hc,rfl⟩
  |unit=>exact⟨hc,rfl⟩
  |_=>cases he
 |pair a b iha ihb=>
  intro x cs he hc
  cases c with
  |dat U y=>
   simp only[oD] at he
   obtain⟨rfl,rfl⟩:=iJ he
   exact⟨lG (fun b hb=>.inl hb) (fun _ _=>rfl) _ hc,rfl⟩
  |pair c d=>
   simp only[oD] at he
   obtain⟨y,h1,he⟩:=aG he
   obtain⟨z,h2,he⟩:=aG he
   simp only[M.ev,Zc] at he
   subst he
   obtain⟨c1,c2,rfl,h3,h4⟩:=hc
   have h5:=(iha c h1 h3).1
   have h6:=(ihb d h2 h4).1
   refine⟨⟨c1,c2,rfl,lG (fun b hb=>?_) (fun _ _=>rfl) _ h5,lG (fun b hb=>?_) (fun _ _=>rfl) _ h6⟩,rfl⟩
   . exact hb.imp id fun hb=>kG.2 (.inl hb)
   . exact hb.imp id fun hb=>kG.2 (.inr hb)
  |_=>cases he
where
 one (h:iH cx φ ψ Av objs w) {T:Ty} {c:CT} {x:T.D} {cs:List Value} (he:(oD T c).ev (find objs)=some x) (hc:c.cells cx.P φ w Av (bH objs) cs)
  (hT:∀U y,c=.dat U y->(oD T c).ev (find objs)=(pZ T U y).ev (find objs):=by intro U y e;subst e;rfl)
  (hT':(∀U y,c≠.dat U y)->(oD T c).ev (find objs)=none:=by intro hne;cases c<;>first|rfl|exact absurd rfl (hne _ _)):
  vK w (fun b=>Av b\/Of φ ψ objs c.ids b) T x cs/\c.isSt=T.isSt:=by
  by_cases hd:∃U y,c=.dat U y
  . obtain⟨U,y,rfl⟩:=hd
    rw[hT U y rfl] at he
    obtain⟨rfl,rfl⟩:=iJ he
    exact⟨lG (fun b hb=>.inl hb) (fun _ _=>rfl) _ hc,rfl⟩
  . rw[hT' fun U y e=>hd ⟨U,y,e⟩] at he;cases he
theorem aHv:(T:Ty)->(c:CT)->{x:T.D}->{cs:List Value}->(vA T c).ev (find objs)=some x->c.cells cx.P φ w Av (bH objs) cs->vK w Av T x cs/\c.isSt=T.isSt:=by
 intro T c
 induction T generalizing c with
 |int k=>intro x cs he hc;exact one he hc
 |bool=>intro x cs he hc;exact one he hc
 |str=>intro x cs he hc;exact one he hc
 |op=>intro x cs he hc;exact one he hc
 |sl t e _=>
  intro x cs he hc
  cases c with
  |dat U y=>
   simp only[vA] at he
   obtain⟨rfl,rfl⟩:=iJ he
   exact⟨hc,rfl⟩
  |nil=>
   simp only[vA,M.ev,Zc] at he
   subst he
   exact⟨.inl ⟨hc,rfl⟩,rfl⟩
  |_=>cases he
 |unit=>
  intro x cs he hc
  cases c with
  |dat U y=>
   simp only[vA] at he
   obtain⟨rfl,rfl⟩:=iJ he
   exact⟨hc,rfl⟩
  |unit=>exact⟨hc,rfl⟩
  |_=>cases he
 |pair a b iha ihb=>
  intro x cs he hc
  cases c with
  |dat U y=>
   simp only[vA] at he
   obtain⟨rfl,rfl⟩:=iJ he
   exact⟨hc,rfl⟩
  |pair c d=>
   simp only[vA] at he
   obtain⟨y,h1,he⟩:=aG he
   obtain⟨z,h2,he⟩:=aG he
   simp only[M.ev,Zc] at he
   subst he
   obtain⟨c1,c2,rfl,h3,h4⟩:=hc
   exact⟨⟨c1,c2,rfl,(iha c h1 h3).1,(ihb d h2 h4).1⟩,rfl⟩
  |_=>cases he
where
 one {T:Ty} {c:CT} {x:T.D} {cs:List Value} (he:(vA T c).ev (find objs)=some x) (hc:c.cells cx.P φ w Av (bH objs) cs)
  (hT:∀U y,c=.dat U y->(vA T c).ev (find objs)=(pZ T U y).ev (find objs):=by intro U y e;subst e;rfl)
  (hT':(∀U y,c≠.dat U y)->(vA T c).ev (find objs)=none:=by intro hne;cases c<;>first|rfl|exact absurd rfl (hne _ _)):
  vK w Av T x cs/\c.isSt=T.isSt:=by
  by_cases hd:∃U y,c=.dat U y
  . obtain⟨U,y,rfl⟩:=hd
    rw[hT U y rfl] at he
    obtain⟨rfl,rfl⟩:=iJ he
    exact⟨hc,rfl⟩
  . rw[hT' fun U y e=>hd ⟨U,y,e⟩] at he;cases he
def aEF(objs:List (Nat×Obj))(ids:List Nat):Prop:=∀o∈ids,bH objs o
theorem jR(h:iH cx φ ψ Av objs w){l r:List Nat}(hn:(l++r).Nodup){b:Nat}(h1:Of φ ψ objs l b)(h2:Of φ ψ objs r b):False:=by
 obtain⟨o,x,ho,hx,hb⟩:=h1
 obtain⟨o',x',ho',hx',hb'⟩:=h2
 refine h.disj o x o' x' hx hx' ?_ b hb hb'
 rintro rfl
 rw[List.nodup_append] at hn
 exact hn.2.2 o ho o ho' rfl
theorem uJ(h:iH cx φ ψ Av objs w):(T:Ty)->(c:CT)->{x:T.D×List Nat}->{cs:List Value}->(nN T c).ev (find objs)=some x->x.2.Nodup->c.cells cx.P φ w Av (bH objs) cs->
 ∃F,qW w T x.1 cs F/\(∀q,F q->Of φ ψ objs x.2 q)/\aEF objs x.2/\c.isSt=T.isSt:=by
 intro T c
 induction T generalizing c with
 |int k=>intro x cs he hn hc;exact one he hn hc
 |bool=>intro x cs he hn hc;exact one he hn hc
 |str=>intro x cs he hn hc;exact one he hn hc
 |op=>intro x cs he hn hc;exact one he hn hc
 |sl t e _=>
  intro x cs he hn hc
  cases c with
  |dat U y=>
   simp only[nN,Zi] at he
   split at he
   . rename_i hfl
     obtain⟨z,h1,he⟩:=aG he
     simp only[M.ev,Zc] at he
     subst he
     obtain⟨rfl,rfl⟩:=iJ h1
     exact⟨_,mP _ hfl hc,fun _ h=>h.elim,(fun o ho=>by cases ho),rfl⟩
   . cases he
  |nil=>
   simp only[nN,M.ev,Zc] at he
   subst he
   exact⟨qQ,.inl ⟨hc,rfl,fun _ h=>h⟩,fun _ h=>h.elim,(fun o ho=>by cases ho),rfl⟩
  |arr o=>
   simp only[nN,M.ev] at he
   split at he
   . rename_i t' e' xs ho
     obtain⟨z,h1,he⟩:=aG he
     simp only[M.ev,Zc] at he
     subst he
     obtain⟨heq,rfl⟩:=iJ h1
     cases heq
     obtain⟨he',hr⟩:=h.reps o _ ho
     obtain⟨rfl,_⟩:=hc
     refine⟨ψ o,hr,fun q hq=>⟨o,_,by simp,ho,hq⟩,fun q hq=>?_,rfl⟩
     simp only[Zq] at hq;subst hq
     exact⟨_,_,_,ho⟩
   . cases he
  |sub o lo hi=>
   simp only[nN,M.ev] at he
   split at he
   . rename_i t' e' xs ho
     obtain⟨z,h1,he⟩:=aG he
     simp only[M.ev,Zc] at he
     subst he
     obtain⟨heq,rfl⟩:=iJ h1
     cases heq
     obtain⟨he',hr⟩:=h.reps o _ ho
     obtain⟨v,rfl,hs⟩:=hc
     rw[he'] at hs
     obtain⟨_,_,F',hr',hF⟩:=aGi hr hs
     refine⟨F',hr',fun q hq=>⟨o,_,by simp,ho,hF q hq⟩,fun q hq=>?_,rfl⟩
     simp only[Zq] at hq;subst hq
     exact⟨_,_,_,ho⟩
   . cases he
  |_=>cases he
 |unit=>
  intro x cs he hn hc
  cases c with
  |dat U y=>
   simp only[nN,Zi] at he
   split at he
   . rename_i hfl
     obtain⟨z,h1,he⟩:=aG he
     simp only[M.ev,Zc] at he
     subst he
     obtain⟨rfl,rfl⟩:=iJ h1
     exact⟨_,mP _ hfl hc,fun _ h=>h.elim,(fun o ho=>by cases ho),rfl⟩
   . cases he
  |unit=>
   simp only[nN,M.ev,Zc] at he
   subst he
   exact⟨qQ,⟨hc,fun _ h=>h⟩,fun _ h=>h.elim,(fun o ho=>by cases ho),rfl⟩
  |_=>cases he
 |pair a b iha ihb=>
  intro x cs he hn hc
  cases c with
  |dat U y=>
   simp only[nN,Zi] at he
   split at he
   . rename_i hfl
     obtain⟨z,h1,he⟩:=aG he
     simp only[M.ev,Zc] at he
     subst he
     obtain⟨rfl,rfl⟩:=iJ h1
     exact⟨_,mP _ hfl hc,fun _ h=>h.elim,(fun o ho=>by cases ho),rfl⟩
   . cases he
  |pair c d=>
   simp only[nN] at he
   obtain⟨y,h1,he⟩:=aG he
   obtain⟨z,h2,he⟩:=aG he
   simp only[M.ev,Zc] at he
   subst he
   obtain⟨c1,c2,rfl,h3,h4⟩:=hc
   have hn':=List.nodup_append.1 hn
   obtain⟨F1,h5,h6,h7,_⟩:=iha c h1 hn'.1 h3
   obtain⟨F2,h8,h9,h10,_⟩:=ihb d h2 hn'.2.1 h4
   refine⟨fun q=>F1 q\/F2 q,⟨c1,c2,F1,F2,rfl,fun _=>Iff.rfl,fun q hq hq'=>jR h hn (h6 q hq) (h9 q hq'),h5,h8⟩,?_,?_,rfl⟩
   . rintro q (hq|hq)
     . exact kG.2 (.inl (h6 q hq))
     . exact kG.2 (.inr (h9 q hq))
   . intro o ho
     rcases Zp.1 ho with ho|ho
     . exact h7 o ho
     . exact h10 o ho
  |_=>cases he
where
 one {T:Ty} {c:CT} {x:T.D×List Nat} {cs:List Value} (he:(nN T c).ev (find objs)=some x) (_hn:x.2.Nodup) (hc:c.cells cx.P φ w Av (bH objs) cs)
  (hT:∀U y,c=.dat U y->nN T c=(bif U.flat then(pZ T U y).bind fun y=>.ret (y,[]) else .fail):=by intro U y e;subst e;rfl)
  (hT':(∀U y,c≠.dat U y)->(nN T c).ev (find objs)=none:=by intro hne;cases c<;>first|rfl|exact absurd rfl (hne _ _)):
  ∃F,qW w T x.1 cs F/\(∀q,F q->Of φ ψ objs x.2 q)/\aEF objs x.2/\c.isSt=T.isSt:=by
  by_cases hd:∃U y,c=.dat U y
  . obtain⟨U,y,rfl⟩:=hd
    rw[hT U y rfl,Zi] at he
    split at he
    . rename_i hfl
      obtain⟨z,h1,he⟩:=aG he
      simp only[M.ev,Zc] at he
      subst he
      obtain⟨rfl,rfl⟩:=iJ h1
      exact⟨_,mP _ hfl hc,fun _ h=>h.elim,(fun o ho=>by cases ho),rfl⟩
    . cases he
  . rw[hT' fun U y e=>hd ⟨U,y,e⟩] at he;cases he
end
theorem rA:(l:List Nat)->uW l=true->l.Nodup
 |[],_=>List.nodup_nil
 |o::r,h=>by
  simp only[uW,Zb,Bool.not_eq_true'] at h
  rw[List.nodup_cons]
  refine⟨fun ho=>?_,rA r h.2⟩
  have:(r.any fun q=>Nat.beq q o)=true:=List.any_eq_true.2 ⟨o,ho,by simp⟩
  rw[this] at h;exact absurd h.1 (by simp)
end Go.Aw
