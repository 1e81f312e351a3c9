/-
 Calls.
-/
import Derived.Test.YtdlkgkkfpfglbaaGreatAwV
namespace Go.Aw
theorem aHS{l l':List Value}{off n:Nat}(hl:l'.length=l.length)(h:off+n<=l.length)(ho:∀j,j<off\/off+n<=j->l'[j]?=l[j]?):l'=eS l off (fX l' off n):=by
 have hs:(fX l' off n).length=n:=oB (by omega)
 apply List.ext_getElem?
 intro j
 by_cases hj:j<off\/off+n<=j
 . rw[ho j hj,pA (by rw[hs];omega) (by rw[hs];exact hj)]
 . have h1:(fX (eS l off (fX l' off n)) off (fX l' off n).length)[j-off]?=(fX l' off n)[j-off]?:=by rw[zV (by rw[hs];omega)]
   rw[hs,uE (by omega),uE (by omega)] at h1
   have e:off+(j-off)=j:=by omega
   rw[e] at h1
   exact h1.symm
section
variable {cx:Cx} {φ:Nat->dJ} {ψ:Nat->Nat->Prop} {w:World} {Av:Nat->Prop} {objs:List (Nat×Obj)} {E:eI}
def oP(cx:Cx)(φ:Nat->dJ)(w:World)(Av:Nat->Prop)(objs:List (Nat×Obj)):List CT->List Value->Prop
 |[],vs=>vs=[]
 |c::cs,vs=>∃v r,vs=v::r/\c.val cx.P φ w Av (bH objs) v/\(∀q∈c.named,keys objs q)/\oP cx φ w Av objs cs r
theorem cR{F:Nat->Prop}{Fs:List (Nat->Prop)}{q:Nat}:kE (F::Fs) q↔(F q\/kE Fs q):=by
 constructor
 . rintro⟨G,hG,hq⟩
   rcases List.mem_cons.1 hG with rfl|hG
   . exact .inl hq
   . exact .inr ⟨G,hG,hq⟩
 . rintro(hq|⟨G,hG,hq⟩)
   . exact⟨F,by simp,hq⟩
   . exact⟨G,by simp[hG],hq⟩
structure aIt(cx:Cx)(φ:Nat->dJ)(ψ:Nat->Nat->Prop)(w:World)(objs:List (Nat×Obj))(AvC:Nat->Prop)(ps:List PM)(r:aCK ps)(vs:List Value)(Fs:List (Nat->Prop)):Prop where
 rep:xQ cx.P w AvC ps r.xs vs Fs
 ap:oJ Fs
 fp:∀q,kE Fs q->Of φ ψ objs r.go q
 go:∀o∈r.go,keys objs o
 mono:∀out n,n<=(r.back out n).2
 back:∀(w':World) (Av' K A:Nat->Prop) (n:Nat) (φ1:Nat->dJ) (ψ1:Nat->Nat->Prop) (out:yP ps) (Gs:List (Nat->Prop)),(∀o,keys objs o->φ1 o=φ o)->uT w w' Av' ps out vs Fs Gs->oJ Gs->
  (∀o,n<=o->o<(r.back out n).2->find objs o=none)->(∀o∈r.kl,K o)->(∀q,Of φ ψ objs r.go q->A q->kE Fs q)->(∀q,kE Gs q->A q\/w.heap.size<=q)->(∀b,b<w.heap.size->¬A b->w'.heap[b]?=w.heap[b]?)->
  ∃φ2 ψ2,Bk cx φ ψ objs w w' K Av' φ1 φ2 ψ1 ψ2 r.go (r.back out n).1 n (r.back out n).2 (fun q=>kE Gs q\/(Of φ ψ objs r.go q/\¬A q))
theorem aKS{w':World}{K Av':Nat->Prop}{φ1 φ2:Nat->dJ}{ψ1 ψ2:Nat->Nat->Prop}{g:List Nat}{l:List (Nat×Obj)}{n n':Nat}{G:Nat->Prop}(b:Bk cx φ ψ objs w w' K Av' φ1 φ2 ψ1 ψ2 g l n n' G)
 (hfr:∀o,n<=o->o<n'->find objs o=none) (h:∀o,keys objs o->φ1 o=φ o):∀o,keys objs o->φ2 o=φ o:=by
 intro o ho
 have:o<n\/n'<=o:=by
  rcases Nat.lt_or_ge o n with h4|h4
  . exact .inl h4
  . rcases Nat.lt_or_ge o n' with h5|h5
    . have h6:=hfr o h4 h5
      unfold keys at ho;rw[h6] at ho;cases ho
    . exact .inr h5
 rw[b.hφ o this,h o ho]
theorem aCa:(T:Ty)->(x:T.D)->(n:Nat)->n<=(nH T x n).n
 |.int _,_,n=>Nat.le_refl n
 |.bool,_,n=>Nat.le_refl n
 |.str,_,n=>Nat.le_refl n
 |.op,_,n=>Nat.le_refl n
 |.unit,_,n=>Nat.le_refl n
 |.sl _ _,_,n=>Nat.le_succ n
 |.pair a b,x,n=>by
  simp only[nH,Zi]
  split
  . exact Nat.le_refl n
  . exact Nat.le_trans (aCa a x.1 n) (aCa b x.2 _)
theorem xA:(m:Md)->(T:Ty)->(x:T.D)->(n:Nat)->n<=(nM m T x n).n
 |.f,T,x,n=>Nat.le_refl n
 |.o,T,x,n=>aCa T x n
 |.np _,T,x,n=>Nat.le_refl n
 |.pair m k,T,x,n=>by
  cases T with
  |pair a b=>exact Nat.le_trans (xA m a x.1 n) (xA k b x.2 _)
  |_=>exact Nat.le_refl n
theorem pB(hE:aS cx.P E)(hO:iH cx φ ψ Av objs w){frz:Bool}{AvC:Nat->Prop}(hA:∀b,Av b->AvC b)(hC:∀b,AvC b->b<w.heap.size):(ps:List PM)->(cs:List CT)->(vs:List Value)->{r:aCK ps}->(qF E.fs frz ps cs).ev (find objs)=some r->
 r.go.Nodup->(frz=false->∀b,Of φ ψ objs r.use b->AvC b)->oP cx φ w Av objs cs vs->∃Fs,aIt cx φ ψ w objs AvC ps r vs Fs
 |[],cs,vs,r,h,hn,hu,hr=>by
  cases cs with
  |nil=>
   simp only[qF,M.ev,Zc] at h
   subst h
   have hr':vs=[]:=hr
   subst hr'
   exact⟨[],⟨rfl,rfl⟩,List.Pairwise.nil,(fun q ⟨F,hF,_⟩=>by cases hF),(fun o ho=>by cases ho),fun _ n=>Nat.le_refl n,fun w' Av' K A n φ1 ψ1 out Gs _ _ _ _ _ _ _ _=>⟨φ1,ψ1,.none⟩⟩
  |cons c cs=>cases h
 |p::ps,cs,vs,r,h,hn,hu,hr=>by
  cases cs with
  |nil=>cases p<;>(try rename_i m;cases m)<;>cases h
  |cons c cs=>
  obtain⟨v,us,rfl,hv,hk,hr⟩:=hr
  have frozen:∀(T:Ty) (x:T.D) (r':aCK ps) (Fs:List (Nat->Prop)),aIt cx φ ψ w objs AvC ps r' us Fs->(∃cs',v=cS T.isSt cs'/\vK w AvC T x cs')->∀use,aIt cx φ ψ w objs AvC (.val T .f::ps) ⟨(x,r'.xs),r'.go,use,r'.back,r'.kl⟩ (v::us) ((fun _=>False)::Fs):=by
   intro T x r' Fs hok hx use
   obtain⟨cs',hv',hx⟩:=hx
   refine⟨⟨v,us,_,Fs,rfl,rfl,⟨cs',hv',hx,fun _ h=>h⟩,hok.rep⟩,List.Pairwise.cons (fun G _ q hq=>hq.elim) hok.ap,fun q hq=>?_,hok.go,fun out n=>hok.mono out n,fun w' Av' K A n φ1 ψ1 out Gs h1 h2 h3 h4 h5 h6 h7 h8=>hok.back w' Av' K A n φ1 ψ1 out Gs h1 h2 h3 h4 h5 (fun q hq ha=>(cR.1 (h6 q hq ha)).elim (fun h=>h.elim) id) h7 h8⟩
   exact(cR.1 hq).elim (fun h=>h.elim) (hok.fp q)
  have moved:∀(T:Ty) (m:Md) (x:T.D×List Nat) (r':aCK ps) (Fs:List (Nat->Prop)),aIt cx φ ψ w objs AvC ps r' us Fs->(xS m T c).ev (find objs)=some x->(x.2++r'.go).Nodup->c≠.undef->c≠.skip->
   ∃Fs,aIt cx φ ψ w objs AvC (.val T m::ps) ⟨(x.1,r'.xs),x.2++r'.go,r'.use,fun o n=>match r'.back o n with|(l,k)=>(gone x.2++l,k),r'.kl⟩ (v::us) Fs:=by
   intro T m x r' Fs hok hx hnd d1 d2
   have hnd':=hnd
   rw[List.nodup_append] at hnd'
   obtain⟨cs',hc,rfl⟩:=hN hv d1 d2
   obtain⟨F,g1,g2,g3,g4⟩:=zU hO m T c hx hnd'.1 hc
   have hgo:∀o∈x.2++r'.go,keys objs o:=fun o ho=>(Zp.1 ho).elim (fun h=>by
    obtain⟨t,e,xs,h'⟩:=g3 o h
    unfold keys;rw[h'];rfl) (hok.go o)
   refine⟨F::Fs,⟨_,us,F,Fs,rfl,rfl,⟨cs',by rw[g4],qP hA m T g1⟩,hok.rep⟩,List.Pairwise.cons (fun G hG q hq hq'=>?_) hok.ap,fun q hq=>?_,hgo,fun out n=>hok.mono out n,fun w' Av' K A n φ1 ψ1 out Gs h1 h2 h3 h4 h5 h6 h7 h8=>?_⟩
   . exact jR hO hnd (g2 q hq) (hok.fp q ⟨G,hG,hq'⟩)
   . exact kG.2 ((cR.1 hq).imp (g2 q) (hok.fp q))
   . obtain⟨φ2,ψ2,b⟩:=hok.back w' Av' K A n φ1 ψ1 out Gs h1 h2 h3 h4 h5 (fun q hq ha=>(cR.1 (h6 q (kG.2 (.inr hq)) ha)).elim (fun hF=>(jR hO hnd (g2 q hF) hq).elim) id) h7 h8
     refine⟨φ2,ψ2,?_⟩
     exact(Bk.gone (G:=fun _=>False) hnd'.1).app b hnd hgo h4 (fun q hq=>hq.elim) (fun q hq=>hq.elim) (fun _ h=>h.imp id fun h=>⟨kG.2 (.inr h.1),h.2⟩)
  have used:∀(l use:List Nat),aHI frz l=true->(frz=false->∀b,Of φ ψ objs (l++use) b->AvC b)->∀b,Av b\/Of φ ψ objs l b->AvC b:=by
   intro l use hnu hu b hb
   rcases hb with hb|hb
   . exact hA b hb
   . cases frz with
     |false=>exact hu rfl b (kG.2 (.inl hb))
     |true=>
      simp only[aHI,Bool.not_true,Bool.false_or,List.isEmpty_iff] at hnu
      subst hnu
      obtain⟨_,_,hm,_⟩:=hb
      cases hm
  cases p with
  |peek T=>
   have h':((aFF T c).bind fun x=>bif aHI frz x.2 then(qF E.fs frz ps cs).bind fun r=>M.ret (⟨(x.1,r.xs),r.go,x.2++r.use,r.back,r.kl⟩:aCK (.peek T::ps)) else .fail).ev (find objs)=some r:=h
   obtain⟨x,h1,h2⟩:=aG h'
   rw[Zi] at h2
   split at h2
   case isFalse=>cases h2
   rename_i hnu
   obtain⟨r',h3,h4⟩:=aG h2
   simp only[M.ev,Zc] at h4
   subst h4
   obtain⟨Fs,hok⟩:=pB hE hO hA hC ps cs us h3 hn (fun hf b hb=>hu hf b (kG.2 (.inr hb))) hr
   have d:c≠.undef/\c≠.skip:=⟨(by rintro rfl;cases h1),(by rintro rfl;cases h1)⟩
   obtain⟨cs',hc,rfl⟩:=hN hv d.1 d.2
   obtain⟨g0,b,off,l,rfl,g1,g2,g3,g4⟩:=aK0 hO h1 hc
   have hin:=used x.2 r'.use hnu fun hf b hb=>hu hf b hb
   refine⟨(fun _=>False)::Fs,⟨⟨_,us,_,Fs,rfl,rfl,⟨⟨b,off,l,by rw[g0];rfl,hin b g1,g2,g3,lG hin (fun _ _=>rfl) T g4⟩,fun _ h=>h⟩,hok.rep⟩,List.Pairwise.cons (fun G _ q hq=>hq.elim) hok.ap,fun q hq=>?_,hok.go,fun out n=>hok.mono out n,fun w' Av' K A n φ1 ψ1 out Gs h1 h2 h3 h4 h5 h6 h7 h8=>hok.back w' Av' K A n φ1 ψ1 out Gs h1 h2 h3 h4 h5 (fun q hq ha=>(cR.1 (h6 q hq ha)).elim (fun h=>h.elim) id) h7 h8⟩⟩
   exact(cR.1 hq).elim (fun h=>h.elim) (hok.fp q)
  |val T m=>
   cases m with
   |f=>
    have h':((bif frz then vA T c else oD T c).bind fun x=>(qF E.fs frz ps cs).bind fun r=>M.ret (⟨(x,r.xs),r.go,c.ids++r.use,r.back,r.kl⟩:aCK (.val T .f::ps))).ev (find objs)=some r:=h
    obtain⟨x,h1,h2⟩:=aG h'
    obtain⟨r',h3,h4⟩:=aG h2
    simp only[M.ev,Zc] at h4
    subst h4
    obtain⟨Fs,hok⟩:=pB hE hO hA hC ps cs us h3 hn (fun hf b hb=>hu hf b (kG.2 (.inr hb))) hr
    refine⟨_,frozen T x r' Fs hok ?_ _⟩
    cases frz with
    |true=>
     obtain⟨d1,d2⟩:=aKT (f:=find objs) (T:=T) (c:=c) h1
     obtain⟨cs',hc,rfl⟩:=hN hv d1 d2
     obtain⟨g1,g2⟩:=aHv T c h1 hc
     exact⟨cs',by rw[g2],lG hA (fun _ _=>rfl) T g1⟩
    |false=>
     obtain⟨d1,d2⟩:=uA (f:=find objs) (T:=T) (c:=c) h1
     obtain⟨cs',hc,rfl⟩:=hN hv d1 d2
     obtain⟨g1,g2⟩:=sQ hO T c h1 hc
     exact⟨cs',by rw[g2],lG (fun b hb=>hb.elim (hA b) (fun hb=>hu rfl b (kG.2 (.inl hb)))) (fun _ _=>rfl) T g1⟩
   |o=>
    have h':((xS .o T c).bind fun x=>(qF E.fs frz ps cs).bind fun r=>M.ret (⟨(x.1,r.xs),x.2++r.go,r.use,fun o n=>match r.back o n with|(l,k)=>(gone x.2++l,k),r.kl⟩:aCK (.val T .o::ps))).ev (find objs)=some r:=h
    obtain⟨x,h1,h2⟩:=aG h'
    obtain⟨r',h3,h4⟩:=aG h2
    simp only[M.ev,Zc] at h4
    subst h4
    have hn':=hn
    simp only[List.nodup_append] at hn'
    obtain⟨Fs,hok⟩:=pB hE hO hA hC ps cs us h3 hn'.2.1 hu hr
    obtain⟨d1,d2⟩:=toMd_def h1
    exact moved T .o x r' Fs hok h1 hn d1 d2
   |pair m k=>
    have h':((xS (.pair m k) T c).bind fun x=>(qF E.fs frz ps cs).bind fun r=>M.ret (⟨(x.1,r.xs),x.2++r.go,r.use,fun o n=>match r.back o n with|(l,k)=>(gone x.2++l,k),r.kl⟩:aCK (.val T (.pair m k)::ps))).ev (find objs)=some r:=h
    obtain⟨x,h1,h2⟩:=aG h'
    obtain⟨r',h3,h4⟩:=aG h2
    simp only[M.ev,Zc] at h4
    subst h4
    have hn':=hn
    simp only[List.nodup_append] at hn'
    obtain⟨Fs,hok⟩:=pB hE hO hA hC ps cs us h3 hn'.2.1 hu hr
    obtain⟨d1,d2⟩:=toMd_def h1
    exact moved T (.pair m k) x r' Fs hok h1 hn d1 d2
   |np m=>
    have h':((xS (.np m) T c).bind fun x=>(qF E.fs frz ps cs).bind fun r=>M.ret (⟨(x.1,r.xs),x.2++r.go,r.use,fun o n=>match r.back o n with|(l,k)=>(gone x.2++l,k),r.kl⟩:aCK (.val T (.np m)::ps))).ev (find objs)=some r:=h
    obtain⟨x,h1,h2⟩:=aG h'
    obtain⟨r',h3,h4⟩:=aG h2
    simp only[M.ev,Zc] at h4
    subst h4
    have hn':=hn
    simp only[List.nodup_append] at hn'
    obtain⟨Fs,hok⟩:=pB hE hO hA hC ps cs us h3 hn'.2.1 hu hr
    obtain⟨d1,d2⟩:=toMd_def h1
    exact moved T (.np m) x r' Fs hok h1 hn d1 d2
  |«mut» T=>
   have h':((aMY T c).bind fun x=>(qF E.fs frz ps cs).bind fun r=>
    M.ret (⟨(x.x,r.xs),x.ids++r.go,r.use,fun o n=>match r.back o.2 n with|(l,k)=>(x.back o.1++l,k),x.kl++r.kl⟩:aCK (.mut T::ps))).ev (find objs)=some r:=h
   obtain⟨x,h1,h2⟩:=aG h'
   obtain⟨r',h3,h4⟩:=aG h2
   simp only[M.ev,Zc] at h4
   subst h4
   have hn':=hn
   simp only[List.nodup_append] at hn'
   obtain⟨Fs,hok⟩:=pB hE hO hA hC ps cs us h3 hn'.2.1 hu hr
   obtain⟨d1,d2⟩:=mutM_def h1
   obtain⟨cs',hcc,rfl⟩:=hN hv d1 d2
   obtain⟨F,g1,g2,g3,g4,g5⟩:=aMr hO T c h1 hn'.1 hcc
   have hgo:∀o∈x.ids++r'.go,keys objs o:=fun o ho=>(Zp.1 ho).elim (fun h=>by
    obtain⟨t,e,xs,h'⟩:=g3 o h
    unfold keys;rw[h'];rfl) (hok.go o)
   refine⟨F::Fs,⟨_,us,F,Fs,rfl,rfl,⟨cs',by rw[g4],g1⟩,hok.rep⟩,List.Pairwise.cons (fun G hG q hq hq'=>?_) hok.ap,fun q hq=>?_,hgo,fun out n=>hok.mono out.2 n,fun w' Av' K A n φ1 ψ1 out Gs k1 k2 k3 k4 k5 k6 k7 k8=>?_⟩
   . exact jR hO hn (g2 q hq) (hok.fp q ⟨G,hG,hq'⟩)
   . exact kG.2 ((cR.1 hq).imp (g2 q) (hok.fp q))
   . obtain⟨v0,G,Gs',hv0,rfl,⟨cs2,rfl,hl2,hy⟩,hrest⟩:=k2
     unfold oJ at k3
     rw[List.pairwise_cons] at k3
     simp only[List.head?_cons,Zc] at hv0
     have hcs:cs2=cs':=by
      have e1:=aDf (st:=c.isSt) (cs:=cs') (fun hs=>by rw[nL T g1];rw[g4] at hs;exact aCv hs) (sB c hcc)
      have e2:=xO hl2 (sL T (jO (Av:=fun _=>True) T (fun _ _=>trivial) hy))
      rw[<-e2,<-hv0,e1]
     subst hcs
     have a1:∀q,Of φ ψ objs x.ids q->A q->F q:=fun q hq ha=>(cR.1 (k6 q (kG.2 (.inl hq)) ha)).elim id fun h=>(jR hO hn hq (hok.fp q h)).elim
     have a2:∀q,Of φ ψ objs r'.go q->A q->kE Fs q:=fun q hq ha=>(cR.1 (k6 q (kG.2 (.inr hq)) ha)).elim (fun hF=>(jR hO hn (g2 q hF) hq).elim) id
     have lt:∀l q,Of φ ψ objs l q->q<w.heap.size:=fun l q ⟨o,x,_,ho,hq⟩=>(hO.own o x ho q hq).1
     obtain⟨ψ2,b1⟩:=g5 w' Av' K A n φ1 ψ1 out.1 G (fun o ho=>k5 o (Zp.2 (.inl ho))) a1 (fun q hq=>k7 q (cR.2 (.inl hq))) k8 hy (fun o ho=>⟨hgo o (Zp.2 (.inl ho)),k1 o (hgo o (Zp.2 (.inl ho)))⟩)
     obtain⟨φ3,ψ3,b2⟩:=hok.back w' Av' K A n φ1 ψ2 out.2 Gs' k1 hrest k3.2 k4 (fun o ho=>k5 o (Zp.2 (.inr ho))) a2 (fun q hq=>k7 q (cR.2 (.inr hq))) k8
     refine⟨φ3,ψ3,b1.app b2 hn hgo k4 (fun q hq hq'=>?_) (fun q hq=>?_) (fun q hq=>?_)⟩
     . rcases hq with hq|⟨hq,hna⟩
       . rcases hq' with⟨K',hK,hq'⟩|⟨hq',hna'⟩
         . exact k3.1 K' hK q hq hq'
         . rcases k7 q (cR.2 (.inl hq)) with h5|h5
           . exact hna' h5
           . have:=lt _ _ hq';omega
       . rcases hq' with hq'|⟨hq',_⟩
         . rcases k7 q (cR.2 (.inr hq')) with h5|h5
           . exact hna h5
           . have:=lt _ _ hq;omega
         . exact jR hO hn hq hq'
     . exact hq.imp (fun hq=>cR.2 (.inl hq)) fun h=>⟨kG.2 (.inl h.1),h.2⟩
     . exact hq.imp (fun hq=>cR.2 (.inr hq)) fun h=>⟨kG.2 (.inr h.1),h.2⟩
  |fn A B=>
   cases c with
   |clo f caps=>
    simp only[qF] at h
    split at h
    . rename_i s hs
      obtain⟨g,h1,h2⟩:=aG h
      rw[Zi] at h2
      split at h2
      case isFalse=>cases h2
      rename_i hnu
      obtain⟨r',h3,h4⟩:=aG h2
      simp only[M.ev,Zc] at h4
      subst h4
      obtain⟨Fs,hok⟩:=pB hE hO hA hC ps cs us h3 hn (fun hf b hb=>hu hf b (kG.2 (.inr hb))) hr
      have himp:=aKK hE hO hC hs h1 (used g.2 r'.use hnu fun hf b hb=>hu hf b hb) hv
      refine⟨(fun _=>False)::Fs,⟨v,us,_,Fs,rfl,rfl,⟨?_,fun _ h=>h⟩,hok.rep⟩,List.Pairwise.cons (fun G _ q hq=>hq.elim) hok.ap,fun q hq=>?_,hok.go,fun out n=>hok.mono out n,fun w' Av' K A n φ1 ψ1 out Gs h1 h2 h3 h4 h5 h6 h7 h8=>hok.back w' Av' K A n φ1 ψ1 out Gs h1 h2 h3 h4 h5 (fun q hq ha=>(cR.1 (h6 q hq ha)).elim (fun h=>h.elim) id) h7 h8⟩
      . exact himp
      . exact(cR.1 hq).elim (fun h=>h.elim) (hok.fp q)
    . cases h
   |fn A' B' pre g=>
    simp only[qF] at h
    split at h
    . rename_i hc
      obtain⟨rfl,rfl⟩:=hc
      obtain⟨r',h3,h4⟩:=aG h
      simp only[M.ev,Zc] at h4
      subst h4
      obtain⟨Fs,hok⟩:=pB hE hO hA hC ps cs us h3 hn hu hr
      obtain⟨cs',⟨v',rfl,himp⟩,rfl⟩:=hv
      refine⟨(fun _=>False)::Fs,⟨_,us,_,Fs,rfl,rfl,⟨?_,fun _ h=>h⟩,hok.rep⟩,List.Pairwise.cons (fun G _ q hq=>hq.elim) hok.ap,fun q hq=>?_,hok.go,fun out n=>hok.mono out n,fun w' Av' K A n φ1 ψ1 out Gs h1 h2 h3 h4 h5 h6 h7 h8=>hok.back w' Av' K A n φ1 ψ1 out Gs h1 h2 h3 h4 h5 (fun q hq ha=>(cR.1 (h6 q hq ha)).elim (fun h=>h.elim) id) h7 h8⟩
      . obtain⟨f',caps',e1,e2,e4,e3⟩:=himp
        exact⟨f',caps',e1,e2,e4,fun w1 Av1 x cs5 h5=>e3 w1 Av1 x cs5 fun b hb=>h5 b (hA b hb)⟩
      . exact(cR.1 hq).elim (fun h=>h.elim) (hok.fp q)
    . cases h
   |_=>cases h
  |nil t e=>
   cases c with
   |nil=>
    have h':((qF E.fs frz ps cs).bind fun r=>M.ret (⟨r.xs,r.go,r.use,r.back,r.kl⟩:aCK (.nil t e::ps))).ev (find objs)=some r:=h
    obtain⟨r',h3,h4⟩:=aG h'
    simp only[M.ev,Zc] at h4
    subst h4
    obtain⟨Fs,hok⟩:=pB hE hO hA hC ps cs us h3 hn hu hr
    obtain⟨cs',rfl,rfl⟩:=hv
    refine⟨(fun _=>False)::Fs,⟨_,us,_,Fs,rfl,rfl,⟨rfl,fun _ h=>h⟩,hok.rep⟩,List.Pairwise.cons (fun G _ q hq=>hq.elim) hok.ap,fun q hq=>?_,hok.go,fun out n=>hok.mono out n,fun w' Av' K A n φ1 ψ1 out Gs h1 h2 h3 h4 h5 h6 h7 h8=>hok.back w' Av' K A n φ1 ψ1 out Gs h1 h2 h3 h4 h5 (fun q hq ha=>(cR.1 (h6 q hq ha)).elim (fun h=>h.elim) id) h7 h8⟩
    exact(cR.1 hq).elim (fun h=>h.elim) (hok.fp q)
   |_=>cases h
  |cell ck cT=>
   cases c with
   |bptr o p U=>
    have h':(bif p.isEmpty&&decide (U=.op) then M.get o fun
     |some (.box .op (.bptr q l T))=>(qF E.fs frz ps cs).bind fun r=>M.ret (⟨r.xs,o::r.go,r.use,fun out n=>match r.back out n with|(u,k)=>((o,.box .op (.bptr q l T))::u,k),r.kl⟩:aCK (.cell ck cT::ps))
     |_=>.fail
     else .fail).ev (find objs)=some r:=h
    rw[Zi] at h'
    split at h'
    . rename_i hpu
      simp only[Zb,List.isEmpty_iff,Za] at hpu
      obtain⟨rfl,rfl⟩:=hpu
      simp only[M.ev] at h'
      split at h'
      . rename_i q l T ho
        obtain⟨r',h3,h4⟩:=aG h'
        simp only[M.ev,Zc] at h4
        subst h4
        have hn1:(o::r'.go).Nodup:=hn
        have hn2:([o]++r'.go).Nodup:=hn1
        rw[List.nodup_cons] at hn1
        obtain⟨Fs,hok⟩:=pB hE hO hA hC ps cs us h3 hn1.2 hu hr
        obtain⟨cs',⟨hat,rfl⟩,rfl⟩:=hv
        obtain⟨g1,g2,mid,g3,g4,g5⟩:=hO.reps o _ ho
        have hml:mid.length=1:=cells_len g2 g3
        have hgo:∀x∈o::r'.go,keys objs x:=fun x hx=>by
         rcases List.mem_cons.1 hx with rfl|hx
         . unfold keys;rw[ho];rfl
         . exact hok.go x hx
        have hOf:∀l,Of φ ψ objs (o::l) (φ o).b:=fun l=>⟨o,_,by simp,ho,rfl⟩
        have lt:∀l q,Of φ ψ objs l q->q<w.heap.size:=fun l q ⟨o,x,_,ho,hq⟩=>(hO.own o x ho q hq).1
        have hadr:cS (CT.bptr o [] .op).isSt [Value.pointer (some ⟨(φ o).b,(φ o).pre.length+(φ o).T.offp [],none⟩)]=.pointer (some ⟨(φ o).b,(φ o).pre.length,none⟩):=by
         simp[cS,CT.isSt,Ty.offp]
        rw[hadr]
        refine⟨(fun q=>q=(φ o).b)::Fs,⟨_,us,_,Fs,rfl,rfl,⟨(φ o).b,(φ o).pre.length,_,(φ o).E,(φ o).fr,rfl,g4,?_,g5,?_,fun _=>Iff.rfl⟩,hok.rep⟩,
         List.Pairwise.cons (fun G hG q hq hq'=>?_) hok.ap,fun q hq=>?_,hgo,fun out n=>hok.mono out n,fun w' Av' K A n φ1 ψ1 out Gs k1 k2 k3 k4 k5 k6 k7 k8=>?_⟩
        . simp only[List.size_toArray,Zf];omega
        . intro u hu
          rw[Zk,List.getElem?_append_right (Nat.le_refl _),Nat.sub_self,List.getElem?_append_left (by omega)] at hu
          exact sB _ g3 u (List.mem_of_getElem? hu)
        . subst hq
          exact jR hO hn2 ⟨o,_,by simp,ho,rfl⟩ (hok.fp _ ⟨G,hG,hq'⟩)
        . rcases cR.1 hq with rfl|hq
          . exact hOf _
          . obtain⟨z1,z2,z3,z4⟩:=hok.fp q hq
            exact⟨z1,z2,by simp[z3],z4⟩
        . obtain⟨b,off,G,Gs',hv0,rfl,hb,hG,hrest⟩:=k2
          unfold oJ at k3
          rw[List.pairwise_cons] at k3
          simp only[List.head?_cons,Zc,Value.pointer.injEq,Addr.mk.injEq,and_true] at hv0
          obtain⟨rfl,rfl⟩:=hv0
          have a2:∀q,Of φ ψ objs r'.go q->A q->kE Fs q:=fun q hq ha=>by
           obtain⟨z1,z2,z3,z4⟩:=hq
           rcases cR.1 (k6 q ⟨z1,z2,by simp[z3],z4⟩ ha) with h|h
           . subst h
             exact(jR hO hn2 ⟨o,_,by simp,ho,rfl⟩ ⟨z1,z2,z3,z4⟩).elim
           . exact h
          have k4':∀q,n<=q->q<(r'.back out n).2->find objs q=Option.none:=k4
          obtain⟨φ3,ψ3,b2⟩:=hok.back w' Av' K A n φ1 ψ1 out Gs' k1 hrest k3.2 k4' k5 a2 (fun q hq=>k7 q (cR.2 (.inr hq))) k8
          have hφo:φ1 o=φ o:=k1 o (hgo o (by simp))
          have single:Bk cx φ ψ objs w w' K Av' φ1 φ1 ψ1 ψ1 [o] [(o,.box .op (.bptr q l T))] n n G:=by
           refine⟨Nat.le_refl _,fun _ _=>rfl,fun _ _ _=>rfl,fun p' hp'=>?_,fun x hx=>?_,by simp,fun p' hp'=>?_,fun p' hp' x hx=>?_,fun p1 hp1 p2 hp2 hne=>?_⟩
           . simp only[Zq] at hp';subst hp';exact .inl (by simp)
           . simpa using hx
           . simp only[Zq] at hp';subst hp'
             exact .keep _ ho rfl hφo hb
           . simp only[Zq] at hp';subst hp'
             simp only[kL,hφo] at hx
             exact(hG x).2 hx
           . simp only[Zq] at hp1 hp2;subst hp1;subst hp2;exact absurd rfl hne
          refine⟨φ3,ψ3,single.app b2 hn2 hgo k4' (fun q hq hq'=>?_) (fun q hq=>.inl (cR.2 (.inl hq))) (fun q hq=>hq.imp (fun hq=>cR.2 (.inr hq)) fun h=>?_)⟩
          . rcases hq' with⟨K',hK,hq'⟩|⟨hq',hna⟩
            . exact k3.1 K' hK q hq hq'
            . rcases k7 q (cR.2 (.inl hq)) with h5|h5
              . exact hna h5
              . have:=lt _ _ hq';omega
          . obtain⟨⟨z1,z2,z3,z4⟩,h2⟩:=h
            exact⟨⟨z1,z2,by simp[z3],z4⟩,h2⟩
      . cases h'
    . cases h'
   |_=>cases h
  |ref T m=>
   cases c with
   |bptr o p U=>
    simp only[qF,Zi] at h
    split at h
    . rename_i hU
      have hU:U=T:=Ze hU
      subst hU
      simp only[M.ev] at h
      split at h
      . rename_i V c0 ho
        obtain⟨x,h1,h2⟩:=aG h
        obtain⟨r',h3,h4⟩:=aG h2
        simp only[M.ev,Zc] at h4
        subst h4
        have hn1:(o::(x.2++r'.go)).Nodup:=hn
        have hn':=hn1
        rw[List.nodup_cons,List.nodup_append] at hn'
        obtain⟨Fs,hok⟩:=pB hE hO hA hC ps cs us h3 hn'.2.2.1 hu hr
        obtain⟨cs',⟨hat,rfl⟩,rfl⟩:=hv
        obtain⟨g1,g2,mid,g3,g4,g5⟩:=hO.reps o _ ho
        rw[g1] at hat
        obtain⟨j1,j2,j3,j4⟩:=vW p c0 hat g2 g3
        have hml:=cells_len g2 g3
        obtain⟨F0,f1,f2,f3,f4⟩:=zU hO m U (c0.atp p) h1 hn'.2.1 j1
        have hseg:fX ((φ o).pre++mid++(φ o).post) ((φ o).pre.length+V.offp p) U.sz=fX mid (V.offp p) U.sz:=by
         unfold fX
         rw[<-List.drop_drop,Zk,List.drop_left,List.drop_append,List.take_append]
         rw[Zs]
         have:U.sz-(mid.length-V.offp p)=0:=by omega
         rw[this,List.take_zero,List.append_nil]
        have hF0b:¬F0 (φ o).b:=fun hq=>jR hO (l:=[o]) (r:=x.2) (by
         simp only[List.singleton_append,List.nodup_cons]
         exact⟨fun h=>hn'.1 (Zp.2 (.inl h)),hn'.2.1⟩) ⟨o,_,by simp,ho,rfl⟩ (f2 _ hq)
        have hgo:∀q∈o::(x.2++r'.go),keys objs q:=fun q hq=>by
         rcases List.mem_cons.1 hq with rfl|hq
         . unfold keys;rw[ho];rfl
         . exact(Zp.1 hq).elim (fun h=>by
            obtain⟨t,e,xs,h'⟩:=f3 q h
            unfold keys;rw[h'];rfl) (hok.go q)
        have hadr:cS (CT.bptr o p U).isSt [Value.pointer (some ⟨(φ o).b,(φ o).pre.length+(φ o).T.offp p,none⟩)]=.pointer (some ⟨(φ o).b,(φ o).pre.length+V.offp p,none⟩):=by
         simp[cS,CT.isSt,g1]
        rw[hadr]
        refine⟨(fun q=>q=(φ o).b\/F0 q)::Fs,⟨_,us,_,Fs,rfl,rfl,⟨(φ o).b,(φ o).pre.length+V.offp p,_,(φ o).E,(φ o).fr,F0,rfl,g4,?_,tC g5 (by omega) (by omega),?_,hF0b,fun _=>Iff.rfl⟩,hok.rep⟩,
         List.Pairwise.cons (fun G hG q hq hq'=>?_) hok.ap,fun q hq=>?_,hgo,fun out n=>Nat.le_trans (xA m U out.1 n) (hok.mono out.2 _),fun w' Av' K A n φ1 ψ1 out Gs k1 k2 k3 k4 k5 k6 k7 k8=>?_⟩
        . simp only[List.size_toArray,Zf];omega
        . show rdM w AvC m U x.1 (fX ((φ o).pre++mid++(φ o).post) _ U.sz) F0
          rw[hseg];exact qP hA m U f1
        . have hgoq:=hok.fp q ⟨G,hG,hq'⟩
          have hn2:((o::x.2)++r'.go).Nodup:=hn1
          rcases hq with rfl|hq
          . exact jR hO hn2 ⟨o,_,by simp,ho,rfl⟩ hgoq
          . obtain⟨q1,q2,q3,q4⟩:=f2 q hq
            exact jR hO hn2 ⟨q1,q2,Zo _ q3,q4⟩ hgoq
        . rcases cR.1 hq with hq|hq
          . rcases hq with rfl|hq
            . exact⟨o,_,by simp,ho,rfl⟩
            . obtain⟨q1,q2,q3,q4⟩:=f2 q hq
              exact⟨q1,q2,by simp[q3],q4⟩
          . obtain⟨q1,q2,q3,q4⟩:=hok.fp q hq
            exact⟨q1,q2,by simp[q3],q4⟩
        . obtain⟨b,off,G,G0,Gs',c',hv0,rfl,ht,hy,hG0,hG,hrest⟩:=k2
          unfold oJ at k3
          rw[List.pairwise_cons] at k3
          simp only[List.head?_cons,Zc,Value.pointer.injEq,Addr.mk.injEq,and_true] at hv0
          obtain⟨rfl,rfl⟩:=hv0
          obtain⟨φ2,ψ2,md,vl⟩:=zI (P:=cx.P) m U out.1 n φ1 ψ1 hy
          have k4':∀q,n<=q->q<(r'.back out.2 (nM m U out.1 n).n).2->find objs q=none:=k4
          obtain⟨t1,t2,t3⟩:=ht _ _ _ g4
          have hlen':c'.toList.length=((φ o).pre++mid++(φ o).post).length:=by rw[Array.length_toList,t2];simp
          have htl:=aHS hlen' (by simp only[Zf];omega) t3
          have hvsl:(fX c'.toList ((φ o).pre.length+V.offp p) U.sz).length=U.sz:=oB (by rw[hlen'];simp only[Zf];omega)
          have head:(∀q,n<=q->q<(nM m U out.1 n).n->find objs q=none)->Bk cx φ ψ objs w w' K Av' φ1 φ2 ψ1 ψ2 (x.2++[o]) (gone x.2++((o,Obj.box V (c0.setp p (nM m U out.1 n).c))::(nM m U out.1 n).objs)) n (nM m U out.1 n).n G:=by
           intro hfr
           have hon:o<n\/(nM m U out.1 n).n<=o:=by
            rcases Nat.lt_or_ge o n with h5|h5
            . exact .inl h5
            . rcases Nat.lt_or_ge o (nM m U out.1 n).n with h6|h6
              . have:=hfr o h5 h6;rw[ho] at this;cases this
              . exact .inr h6
           have hφo:φ2 o=φ o:=by rw[md.hφ o hon];exact k1 o (by unfold keys;rw[ho];rfl)
           have mb:=md.bk (cx:=cx) (φ:=φ) (ψ:=ψ) (w:=w) (K:=K) (Av':=Av') hfr
           have hbox:∀q,kL φ2 ψ2 o (.box V (c0.setp p (nM m U out.1 n).c)) q->q=(φ o).b:=by
            intro q hq;simp only[kL] at hq;rw[hq,hφo]
           have single:Bk cx φ ψ objs w w' K Av' φ1 φ2 ψ1 ψ2 [o] ((o,Obj.box V (c0.setp p (nM m U out.1 n).c))::(nM m U out.1 n).objs) n (nM m U out.1 n).n G:=by
            refine⟨md.le,md.hφ,fun q hq _=>md.hψ q hq,fun p' hp'=>?_,fun q hq=>?_,?_,fun p' hp'=>?_,fun p' hp' q hq=>?_,fun p1 hp1 p2 hp2 hne q hq1 hq2=>?_⟩
            . rcases List.mem_cons.1 hp' with rfl|hp'
              . exact .inl (by simp)
              . exact .inr (md.keys p' hp')
            . simp only[Zq] at hq;subst hq;simp
            . rw[List.map_cons,List.nodup_cons]
              refine⟨fun hm=>?_,md.nod⟩
              obtain⟨p',hp',hpe⟩:=List.mem_map.1 hm
              have:=md.keys p' hp'
              simp only at hpe
              omega
            . rcases List.mem_cons.1 hp' with rfl|hp'
              . refine .box V U c0 _ p _ c' ho hat (vl.more fun q hq=>by simp only[List.map_cons,List.mem_cons];exact .inr hq) t1 (fun mid' hm' hw'=>?_)
                have hmid:mid'=mid:=by
                 rw[g4] at hw'
                 simp only[Zc,Go.Obj.cells.injEq] at hw'
                 have h6:=congrArg Array.toList hw'.1
                 simp only[Zk] at h6
                 have h7:=(List.append_inj h6 rfl).2
                 exact((List.append_inj h7 (by rw[hm',hml])).1).symm
                subst hmid
                refine htl.trans ?_
                rw[Zk,vP,aEW (by omega),Zk]
              . exact(mb.item p' hp').agr rfl rfl (fun _ _=>rfl) (fun q hq=>by simp only[List.map_cons,List.mem_cons];exact .inr hq)
            . rcases List.mem_cons.1 hp' with rfl|hp'
              . exact(hG q).2 (.inl (hbox q hq))
              . exact(hG q).2 (.inr (mb.blk p' hp' q hq))
            . rcases List.mem_cons.1 hp1 with rfl|hp1<;>rcases List.mem_cons.1 hp2 with rfl|hp2
              . exact hne rfl
              . exact hG0 (hbox q hq1▸mb.blk p2 hp2 q hq2)
              . exact hG0 (hbox q hq2▸mb.blk p1 hp1 q hq1)
              . exact mb.dis p1 hp1 p2 hp2 hne q hq1 hq2
           refine(Bk.gone (G:=fun _=>False) hn'.2.1).app single ?_ (fun q hq=>?_) hfr (fun q hq=>hq.elim) (fun q hq=>hq.elim) (fun _ h=>h)
           . rw[List.nodup_append]
             refine⟨hn'.2.1,by simp,fun a ha b hb=>?_⟩
             simp only[Zq] at hb
             rintro rfl
             exact hn'.1 (Zp.2 (.inl (hb▸ha)))
           . exact hgo q (by
              rcases Zp.1 hq with hq|hq
              . exact Zo _ (Zp.2 (.inl hq))
              . exact List.mem_cons.2 (.inl (Zq.1 hq)))
          have hle:=hok.mono out.2 (nM m U out.1 n).n
          have hd:=head (fun q h1 h2=>k4' q h1 (by omega))
          have k1':=aKS hd (fun q h1 h2=>k4' q h1 (by omega)) k1
          have a2:∀q,Of φ ψ objs r'.go q->A q->kE Fs q:=fun q hq ha=>by
           have hn2:((o::x.2)++r'.go).Nodup:=hn1
           obtain⟨z1,z2,z3,z4⟩:=hq
           rcases cR.1 (k6 q ⟨z1,z2,by simp[z3],z4⟩ ha) with hF|h
           . refine(jR hO hn2 ?_ ⟨z1,z2,z3,z4⟩).elim
             rcases hF with rfl|hF
             . exact⟨o,_,by simp,ho,rfl⟩
             . obtain⟨q1,q2,q3,q4⟩:=f2 q hF
               exact⟨q1,q2,Zo _ q3,q4⟩
           . exact h
          have lt:∀l q,Of φ ψ objs l q->q<w.heap.size:=fun l q ⟨o,x,_,ho,hq⟩=>(hO.own o x ho q hq).1
          obtain⟨φ3,ψ3,b2⟩:=hok.back w' Av' K A (nM m U out.1 n).n φ2 ψ2 out.2 Gs' k1' hrest k3.2 (fun q h1 h2=>k4' q (Nat.le_trans (xA m U out.1 n) h1) h2) k5 a2 (fun q hq=>k7 q (cR.2 (.inr hq))) k8
          have hb:=hd.app b2 (by
           rw[List.nodup_append,List.nodup_append]
           refine⟨⟨hn'.2.1,by simp,fun a ha b hb=>?_⟩,hn'.2.2.1,fun a ha b hb=>?_⟩
           . simp only[Zq] at hb
             rintro rfl
             exact hn'.1 (Zp.2 (.inl (hb▸ha)))
           . rcases Zp.1 ha with ha|ha
             . exact hn'.2.2.2 a ha b hb
             . simp only[Zq] at ha
               rintro rfl
               exact hn'.1 (Zp.2 (.inr (ha▸hb)))) (fun q hq=>hgo q (by
               rcases Zp.1 hq with hq|hq
               . rcases Zp.1 hq with hq|hq
                 . exact Zo _ (Zp.2 (.inl hq))
                 . exact List.mem_cons.2 (.inl (Zq.1 hq))
               . exact Zo _ (Zp.2 (.inr hq)))) k4'
           (G:=fun q=>kE (G::Gs') q\/(Of φ ψ objs (o::(x.2++r'.go)) q/\¬A q)) (fun q hq hq'=>by
            rcases hq' with⟨K',hK,hq'⟩|⟨hq',hna⟩
            . exact k3.1 K' hK q hq hq'
            . rcases k7 q (cR.2 (.inl hq)) with h5|h5
              . exact hna h5
              . have:=lt _ _ hq';omega) (fun q hq=>.inl (cR.2 (.inl hq))) (fun q hq=>hq.imp (fun hq=>cR.2 (.inr hq)) fun h=>by
            obtain⟨⟨z1,z2,z3,z4⟩,h2⟩:=h
            exact⟨⟨z1,z2,by simp[z3],z4⟩,h2⟩)
          have hperm:∀q,q∈x.2++[o]++r'.go↔q∈o::(x.2++r'.go):=by
           intro q
           simp only[Zp,List.mem_cons,List.not_mem_nil,or_false]
           constructor
           . rintro((h|h)|h)
             . exact .inr (.inl h)
             . exact .inl h
             . exact .inr (.inr h)
           . rintro(h|h|h)
             . exact .inl (.inr h)
             . exact .inl (.inl h)
             . exact .inr h
          exact⟨φ3,ψ3,hb.le,hb.hφ,fun q h1 h2=>hb.hψ q h1 (fun h=>h2 ((hperm q).1 h)),fun p' hp'=>(hb.keys p' hp').imp (hperm _).1 id,fun q hq=>hb.all q ((hperm q).2 hq),hb.nod,hb.item,hb.blk,hb.dis⟩
      . cases h
    . cases h
   |_=>cases h
where
 mutM_def {T:Ty} {c:CT} {x:aKy T} (h:(aMY T c).ev (find objs)=some x):c≠.undef/\c≠.skip:=by
  constructor
  . rintro rfl;cases h
  . rintro rfl;cases h
 toMd_def {m:Md} {T:Ty} {c:CT} {x:T.D×List Nat} (h:(xS m T c).ev (find objs)=some x):c≠.undef/\c≠.skip:=by
  constructor
  . rintro rfl
    cases m<;>cases T<;>cases h
  . rintro rfl
    cases m<;>cases T<;>cases h
end
end Go.Aw
