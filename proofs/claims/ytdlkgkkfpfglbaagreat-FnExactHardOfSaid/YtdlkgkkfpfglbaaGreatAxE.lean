/-
 How a function ends: its contract.
-/
import Derived.Test.YtdlkgkkfpfglbaaGreatAxD
namespace Go.Aw
open Go.IntKind (wrap)
open List (length)
section
variable {cx:Cx} {φ:Nat->dJ} {ψ:Nat->Nat->Prop} {w:World} {Av:Nat->Prop} {objs:List (Nat×Obj)} {E:eI}
def aAR(cx:Cx):List PM->Nat->Prop
 |[],_=>True
 |.cell k _::ps,n=>(10000000+64*k∈cx.pin/\∀c E fr,cx.w0.heap[(cx.φ0 n).b]?=some (.cells c E fr)->
  c.toList[(cx.φ0 n).pre.length]?=some (.pointer (some ⟨(cx.φ0 (10000000+64*k)).b,(cx.φ0 (10000000+64*k)).pre.length,none⟩)))/\aAR cx ps (n+64)
 |_::ps,n=>aAR cx ps (n+64)
theorem pH{cx:Cx}:(ps:List PM)->(n:Nat)->aJ3 ps=true->aAR cx ps n
 |[],_,_=>trivial
 |.cell _ _::_,_,h=>by cases h
 |.val _ _::ps,n,h=>pH ps (n+64) h
 |.mut _::ps,n,h=>pH ps (n+64) h
 |.ref _ _::ps,n,h=>pH ps (n+64) h
 |.fn _ _::ps,n,h=>pH ps (n+64) h
 |.peek _::ps,n,h=>pH ps (n+64) h
 |.nil _ _::ps,n,h=>pH ps (n+64) h
theorem xC(hO:iH cx φ ψ Av objs w):(ps:List PM)->(xs:oC ps)->(n:Nat)->{vs:List Value}->{Fs:List (Nat->Prop)}->{o:yP ps×List Nat}->yN cx.P cx.w0 cx.φ0 cx.pin ps xs n vs->aAR cx ps n->(yU ps xs n).ev (find objs)=some o->o.2.Nodup->
 ∃Gs,uT cx.w0 w Av ps o.1 vs Fs Gs/\oJ Gs/\∀q,kE Gs q->Of φ ψ objs o.2 q
 |[],xs,n,vs,Fs,o,hk,hc,h,hn=>by
  simp only[yU,M.ev,Zc] at h
  subst h
  exact⟨[],rfl,List.Pairwise.nil,fun q ⟨G,hG,_⟩=>by cases hG⟩
 |.val T m::ps,xs,n,vs,Fs,o,hk,hc,h,hn=>xC hO ps xs.2 (n+64) (Fs:=Fs.tail) hk hc h hn
 |.fn A B::ps,xs,n,vs,Fs,o,hk,hc,h,hn=>xC hO ps xs.2 (n+64) (Fs:=Fs.tail) hk hc h hn
 |.peek T::ps,xs,n,vs,Fs,o,hk,hc,h,hn=>xC hO ps xs.2 (n+64) (Fs:=Fs.tail) hk hc h hn
 |.nil t e::ps,xs,n,vs,Fs,o,hk,hc,h,hn=>xC hO ps xs (n+64) (Fs:=Fs.tail) hk hc h hn
 |.cell k T::ps,xs,n,vs,Fs,o,hk,hc,h,hn=>by
  simp only[yU,M.ev] at h
  split at h
  . rename_i o1 p U hfo
    rw[Zi] at h
    split at h
    . rename_i hU
      simp only[Zb,Nat.beq_eq,List.isEmpty_iff,Za] at hU
      obtain⟨⟨rfl,rfl⟩,rfl⟩:=hU
      obtain⟨r,h3,h4⟩:=aG h
      simp only[M.ev,Zc] at h4
      subst h4
      have hn1:(n::r.2).Nodup:=hn
      have hn2:([n]++r.2).Nodup:=hn1
      rw[List.nodup_cons] at hn1
      obtain⟨⟨hpin,hT,c0,hv,hb0,hpre,hpost,hlen⟩,hk2⟩:=hk
      obtain⟨⟨hpk,hcell⟩,hc2⟩:=hc
      obtain⟨hφ,_⟩:=hO.pin _ hpin
      obtain⟨hφk,_⟩:=hO.pin _ hpk
      have hcell:=hcell _ _ _ hb0
      rw[<-hφk] at hcell
      rw[<-hφ] at hv hb0 hpre hpost hlen hcell
      obtain⟨g1,g2,mid,g3,g4,g5⟩:=hO.reps n _ hfo
      obtain⟨hat,rfl⟩:=g3
      obtain⟨Gs,k1,k2,k3⟩:=xC hO ps xs (n+64) (Fs:=Fs.tail) hk2 hc2 h3 hn1.2
      have hmid:(φ n).pre++[Value.pointer (some ⟨(φ (10000000+64*k)).b,(φ (10000000+64*k)).pre.length+(φ (10000000+64*k)).T.offp [],none⟩)]++(φ n).post=c0.toList:=by
       obtain⟨hlt,hget⟩:=List.getElem?_eq_some_iff.1 hcell
       have e:[Value.pointer (some ⟨(φ (10000000+64*k)).b,(φ (10000000+64*k)).pre.length+(φ (10000000+64*k)).T.offp [],none⟩)]=[c0.toList[(φ n).pre.length]]:=by rw[hget];rfl
       rw[e,hpost]
       conv=>lhs;lhs;lhs;rw[hpre]
       rw[Zk,List.singleton_append,List.getElem_cons_drop,List.take_append_drop]
      have hheap:w.heap[(φ n).b]?=cx.w0.heap[(φ n).b]?:=by
       rw[g4,hb0,hmid]
      refine⟨(fun q=>q=(φ n).b)::Gs,⟨(φ n).b,(φ n).pre.length,_,Gs,hv,rfl,hheap,fun _=>Iff.rfl,k1⟩,List.Pairwise.cons (fun G hG q hq hq'=>?_) k2,fun q hq=>?_⟩
      . subst hq
        exact jR hO hn2 ⟨n,_,by simp,hfo,rfl⟩ (k3 _ ⟨G,hG,hq'⟩)
      . rcases cR.1 hq with rfl|hq
        . exact⟨n,_,by simp,hfo,rfl⟩
        . obtain⟨q1,q2,q3,q4⟩:=k3 q hq
          exact⟨q1,q2,by simp[q3],q4⟩
    . cases h
  . cases h
 |.mut T::ps,xs,n,vs,Fs,o,hk,hc,h,hn=>by
  have h':((nN T (nH T xs.1 (n+30000001)).c).bind fun x=>(yU ps xs.2 (n+64)).bind fun r=>M.ret (((x.1,r.1),x.2++r.2):yP (.mut T::ps)×List Nat)).ev (find objs)=some o:=h
  obtain⟨x,h1,h2⟩:=aG h'
  obtain⟨r,h3,h4⟩:=aG h2
  simp only[M.ev,Zc] at h4
  subst h4
  have hn':=hn
  simp only[List.nodup_append] at hn'
  obtain⟨⟨cs,hv,hlen,hcs,hdeep,hpin⟩,hk2⟩:=hk
  have hcc:(nH T xs.1 (n+30000001)).c.cells cx.P φ w Av (bH objs) cs:=
   lK (al:=bH objs) (al':=bH objs) (fun _ h=>h.elim) (fun _ h=>h.elim) _ (fun q hq=>(hO.pin q (hpin q hq).1).1) (fun q hq=>by rw[hdeep] at hq;cases hq) (hcs (bH objs))
  obtain⟨F,g1,g2,g3,g4⟩:=uJ hO T _ h1 hn'.1 hcc
  obtain⟨Gs,k1,k2,k3⟩:=xC hO ps xs.2 (n+64) (Fs:=Fs.tail) hk2 hc h3 hn'.2.1
  refine⟨F::Gs,⟨_,F,Gs,hv,rfl,⟨cs,rfl,hlen,g1⟩,k1⟩,List.Pairwise.cons (fun G hG q hq hq'=>jR hO hn (g2 q hq) (k3 q ⟨G,hG,hq'⟩)) k2,fun q hq=>?_⟩
  exact kG.2 ((cR.1 hq).imp (g2 q) (k3 q))
 |.ref T m::ps,xs,n,vs,Fs,o,hk,hc,h,hn=>by
  simp only[yU,M.ev] at h
  split at h
  . rename_i U c hfo
    rw[Zi] at h
    split at h
    . rename_i hU
      have hU:U=T:=Ze hU
      subst hU
      obtain⟨x,h1,h2⟩:=aG h
      obtain⟨r,h3,h4⟩:=aG h2
      simp only[M.ev,Zc] at h4
      subst h4
      have hn1:(n::(x.2++r.2)).Nodup:=hn
      have hn':=hn1
      rw[List.nodup_cons,List.nodup_append] at hn'
      obtain⟨⟨hpin,c0,hv,hb0,hpre,hpost,hlen⟩,hk2⟩:=hk
      obtain⟨hφ,_⟩:=hO.pin _ hpin
      rw[<-hφ] at hv hb0 hpre hpost hlen
      obtain⟨g1,g2,mid,g3,g4,g5⟩:=hO.reps n _ hfo
      have hml:=cells_len g2 g3
      obtain⟨F0,f1,f2,f3,f4⟩:=zU hO m U c h1 hn'.2.1 g3
      obtain⟨Gs,k1,k2,k3⟩:=xC hO ps xs.2 (n+64) (Fs:=Fs.tail) hk2 hc h3 hn'.2.2.1
      have hF0b:¬F0 (φ n).b:=fun hq=>jR hO (l:=[n]) (r:=x.2) (by
       simp only[List.singleton_append,List.nodup_cons]
       exact⟨fun h=>hn'.1 (Zp.2 (.inl h)),hn'.2.1⟩) ⟨n,_,by simp,hfo,rfl⟩ (f2 _ hq)
      have hpl:(φ n).pre.length<=c0.toList.length:=by omega
      have ht:aCD cx.w0 w (φ n).b (φ n).pre.length U.sz ((φ n).pre++mid++(φ n).post).toArray:=by
       intro c' E' fr' hc'
       rw[hb0] at hc'
       simp only[Zc,Go.Obj.cells.injEq] at hc'
       obtain⟨rfl,rfl,rfl⟩:=hc'
       have hpol:(φ n).post.length=c0.toList.length-((φ n).pre.length+U.sz):=by rw[hpost,Zs]
       refine⟨g4,?_,fun j hj=>?_⟩
       . rw[List.size_toArray,Zf,Zf,hml,hpol,<-Array.length_toList];omega
       . show((φ n).pre++mid++(φ n).post)[j]?=c0.toList[j]?
         rcases hj with hj|hj
         . rw[Zk,List.getElem?_append_left hj]
           conv=>lhs;rw[hpre]
           exact List.getElem?_take_of_lt hj
         . rw[List.getElem?_append_right (by rw[Zf];omega),hpost,List.getElem?_drop]
           congr 1
           rw[Zf];omega
      have hsg:fX ((φ n).pre++mid++(φ n).post) (φ n).pre.length U.sz=mid:=by
       unfold fX
       rw[Zk,List.drop_left,<-hml,List.take_left]
      refine⟨(fun q=>q=(φ n).b\/F0 q)::Gs,⟨(φ n).b,(φ n).pre.length,_,F0,Gs,_,hv,rfl,ht,?_,hF0b,fun _=>Iff.rfl,k1⟩,List.Pairwise.cons (fun G hG q hq hq'=>?_) k2,fun q hq=>?_⟩
      . show rdM w Av m U x.1 (fX ((φ n).pre++mid++(φ n).post) _ U.sz) F0
        rw[hsg];exact f1
      . have hn2:((n::x.2)++r.2).Nodup:=hn1
        rcases hq with rfl|hq
        . exact jR hO hn2 ⟨n,_,by simp,hfo,rfl⟩ (k3 _ ⟨G,hG,hq'⟩)
        . obtain⟨q1,q2,q3,q4⟩:=f2 q hq
          exact jR hO hn2 ⟨q1,q2,Zo _ q3,q4⟩ (k3 _ ⟨G,hG,hq'⟩)
      . rcases cR.1 hq with hq|hq
        . rcases hq with rfl|hq
          . exact⟨n,_,by simp,hfo,rfl⟩
          . obtain⟨q1,q2,q3,q4⟩:=f2 q hq
            exact⟨q1,q2,by simp[q3],q4⟩
        . obtain⟨q1,q2,q3,q4⟩:=k3 q hq
          exact⟨q1,q2,by simp[q3],q4⟩
    . cases h
  . cases h
theorem aDy(hO:iH cx φ ψ Av objs w){AvE:Nat->Prop}(hA:∀b,Av b->AvE b):(rs:List (Ty×Md))->(cs:List CT)->{vs:List Value}->{r:Res rs×List Nat×List Nat}->oP cx φ w Av objs cs vs->(aDn rs cs).ev (find objs)=some r->r.2.1.Nodup->(∀b,Of φ ψ objs r.2.2 b->AvE b)->
 ∃Hs,aAv w AvE rs r.1 vs Hs/\oJ Hs/\∀q,kE Hs q->Of φ ψ objs r.2.1 q
 |[],cs,vs,r,hr,h,hn,hu=>by
  cases cs with
  |nil=>
   simp only[aDn,M.ev,Zc] at h
   subst h
   have hr':vs=[]:=hr
   exact⟨[],⟨hr',rfl⟩,List.Pairwise.nil,fun q ⟨G,hG,_⟩=>by cases hG⟩
  |cons c cs=>cases h
 |(T,m)::rs,cs,vs,r,hr,h,hn,hu=>by
  cases cs with
  |nil=>cases m<;>cases h
  |cons c cs=>
   obtain⟨v,us,rfl,hv,hk,hr⟩:=hr
   have own:∀{x:T.D×List Nat} {r':Res rs×List Nat×List Nat},(xS m T c).ev (find objs)=some x->(aDn rs cs).ev (find objs)=some r'->r=((x.1,r'.1),x.2++r'.2.1,r'.2.2)->
    ∃Hs,aAv w AvE ((T,m)::rs) r.1 (v::us) Hs/\oJ Hs/\∀q,kE Hs q->Of φ ψ objs r.2.1 q:=by
    rintro x r' h1 h3 rfl
    have hn':=hn
    simp only[List.nodup_append] at hn'
    obtain⟨d1,d2⟩:=pB.toMd_def h1
    obtain⟨cs',hc,rfl⟩:=hN hv d1 d2
    obtain⟨F,g1,g2,g3,g4⟩:=zU hO m T c h1 hn'.1 hc
    obtain⟨Hs,k1,k2,k3⟩:=aDy hO hA rs cs hr h3 hn'.2.1 hu
    exact⟨F::Hs,⟨_,us,F,Hs,rfl,rfl,(by
     have g1:=qP hA m T g1
     cases m with
     |np m=>simp only[xS] at h1;cases h1
     |_=>exact⟨cs',by rw[g4],g1⟩),k1⟩,List.Pairwise.cons (fun G hG q hq hq'=>jR hO hn (g2 q hq) (k3 q ⟨G,hG,hq'⟩)) k2,fun q hq=>kG.2 ((cR.1 hq).imp (g2 q) (k3 q))⟩
   cases m with
   |f=>
    have h':((oD T c).bind fun x=>(aDn rs cs).bind fun r=>M.ret (((x,r.1),r.2.1,c.ids++r.2.2):Res ((T,.f)::rs)×List Nat×List Nat)).ev (find objs)=some r:=h
    obtain⟨x,h1,h2⟩:=aG h'
    obtain⟨r',h3,h4⟩:=aG h2
    simp only[M.ev,Zc] at h4
    subst h4
    obtain⟨d1,d2⟩:=uA h1
    obtain⟨cs',hc,rfl⟩:=hN hv d1 d2
    obtain⟨g1,g2⟩:=sQ hO T c h1 hc
    obtain⟨Hs,k1,k2,k3⟩:=aDy hO hA rs cs hr h3 hn (fun b hb=>hu b (kG.2 (.inr hb)))
    refine⟨(fun _=>False)::Hs,⟨_,us,_,Hs,rfl,rfl,⟨cs',by rw[g2],lG (fun b hb=>hb.elim (hA b) fun hb=>hu b (kG.2 (.inl hb))) (fun _ _=>rfl) T g1,fun _ h=>h⟩,k1⟩,List.Pairwise.cons (fun G _ q hq=>hq.elim) k2,fun q hq=>(cR.1 hq).elim (fun h=>h.elim) (k3 q)⟩
   |o=>
    have h':((xS .o T c).bind fun x=>(aDn rs cs).bind fun r=>M.ret (((x.1,r.1),x.2++r.2.1,r.2.2):Res ((T,.o)::rs)×List Nat×List Nat)).ev (find objs)=some r:=h
    obtain⟨x,h1,h2⟩:=aG h'
    obtain⟨r',h3,h4⟩:=aG h2
    simp only[M.ev,Zc] at h4
    exact own h1 h3 h4.symm
   |np m=>
    have hbad:((xS (.np m) T c).bind fun x=>(aDn rs cs).bind fun r=>M.ret (((x.1,r.1),x.2++r.2.1,r.2.2):Res ((T,.np m)::rs)×List Nat×List Nat)).ev (find objs)=some r->
     ∃Hs,aAv w AvE ((T,.np m)::rs) r.1 (v::us) Hs/\oJ Hs/\∀q,kE Hs q->Of φ ψ objs r.2.1 q:=fun h'=>by
     obtain⟨x,h1,h2⟩:=aG h'
     simp only[xS] at h1
     cases h1
    cases c with
    |bptr o p U'=>
     cases p with
     |cons _ _=>exact hbad h
     |nil=>
     simp only[aDn,M.ev] at h
     split at h
     . rename_i U d hfo
       rw[Zi] at h
       split at h
       . rename_i hU
         have hU:U=T:=Ze hU
         subst hU
         obtain⟨x,h1,h2⟩:=aG h
         obtain⟨r',h3,h4⟩:=aG h2
         simp only[M.ev,Zc] at h4
         subst h4
         have hv:=yM hv
         subst hv
         obtain⟨g1,g2,mid,g3,g4,g5⟩:=hO.reps o _ hfo
         have hml:mid.length=U.sz:=cells_len g2 g3
         have hn1:(o::(x.2++r'.2.1)).Nodup:=hn
         have hn':=hn1
         rw[List.nodup_cons,List.nodup_append] at hn'
         obtain⟨F0,f1,f2,f3,f4⟩:=zU hO m U d h1 hn'.2.1 g3
         obtain⟨Hs,k1,k2,k3⟩:=aDy hO hA rs cs hr h3 hn'.2.2.1 hu
         have hF0b:¬F0 (φ o).b:=fun hq=>jR hO (l:=[o]) (r:=x.2) (by
          simp only[List.singleton_append,List.nodup_cons]
          exact⟨fun h=>hn'.1 (Zp.2 (.inl h)),hn'.2.1⟩) ⟨o,_,by simp,hfo,rfl⟩ (f2 _ hq)
         have hsg:fX ((φ o).pre++mid++(φ o).post) (φ o).pre.length U.sz=mid:=by
          unfold fX
          rw[Zk,List.drop_left,<-hml,List.take_left]
         refine⟨(fun q=>q=(φ o).b\/F0 q)::Hs,⟨_,us,_,Hs,rfl,rfl,⟨(φ o).b,(φ o).pre.length,((φ o).pre++mid++(φ o).post).toArray,(φ o).E,(φ o).fr,F0,rfl,g4,?_,g5,?_,hF0b,fun _=>Iff.rfl⟩,k1⟩,List.Pairwise.cons (fun G hG q hq hq'=>?_) k2,fun q hq=>?_⟩
         . show(φ o).pre.length+U.sz<=_
           rw[List.size_toArray,Zf,Zf,hml];omega
         . show rdM w AvE m U x.1 (fX ((φ o).pre++mid++(φ o).post) _ U.sz) F0
           rw[hsg];exact qP hA m U f1
         . have hn2:((o::x.2)++r'.2.1).Nodup:=hn1
           rcases hq with rfl|hq
           . exact jR hO hn2 ⟨o,_,by simp,hfo,rfl⟩ (k3 _ ⟨G,hG,hq'⟩)
           . obtain⟨q1,q2,q3,q4⟩:=f2 q hq
             exact jR hO hn2 ⟨q1,q2,Zo _ q3,q4⟩ (k3 _ ⟨G,hG,hq'⟩)
         . rcases cR.1 hq with hq|hq
           . rcases hq with rfl|hq
             . exact⟨o,_,by simp,hfo,rfl⟩
             . obtain⟨q1,q2,q3,q4⟩:=f2 q hq
               exact⟨q1,q2,by simp[q3],q4⟩
           . obtain⟨q1,q2,q3,q4⟩:=k3 q hq
             exact⟨q1,q2,by simp[q3],q4⟩
       . cases h
     . cases h
    |_=>exact hbad h
   |pair m k=>
    have h':((xS (.pair m k) T c).bind fun x=>(aDn rs cs).bind fun r=>M.ret (((x.1,r.1),x.2++r.2.1,r.2.2):Res ((T,.pair m k)::rs)×List Nat×List Nat)).ev (find objs)=some r:=h
    obtain⟨x,h1,h2⟩:=aG h'
    obtain⟨r',h3,h4⟩:=aG h2
    simp only[M.ev,Zc] at h4
    exact own h1 h3 h4.symm
def aDQ(tmps:Array Value):ResultVar->Sem Value
 |.tmp t=>pure (tmps.getD t undef)
 |.cell a t=>do loadVar t (<-asAddr (tmps.getD a undef))
theorem aCE{σ:St}{tmps:Array Value}(hE:aS cx.P E)(hO:iH cx φ ψ Av σ.objs w)(hS:kV cx.P φ Av σ tmps w):(l:List ResultVar)->{cs:List CT}->aBM E σ l=some cs->
 ∃vs,oP cx φ w Av σ.objs cs vs/\(l.mapM (aDQ tmps)).run cx.P w=.ok vs w
 |[],cs,h=>by
  simp only[aBM,Zc] at h
  subst h
  exact⟨[],rfl,by simp⟩
 |.tmp t::l,cs,h=>by
  simp only[aBM] at h
  have hat:=aBs (a:=⟨tmps,[]⟩) hS (.tmp t)
  simp only[St.at] at hat
  split at h
  . rename_i c cs' hc hl
    simp only[Zc] at h
    subst h
    rw[hc] at hat
    obtain⟨vs,h1,h2⟩:=aCE hE hO hS l hl
    refine⟨tmps.getD t undef::vs,⟨_,vs,rfl,hat.1,hat.2,h1⟩,?_⟩
    simp only[List.mapM_cons,aDQ,Sem.run_bind,Sem.run_pure,Result.andThen_ok,h2]
  . cases h
 |.cell t ty::l,cs,h=>by
  simp only[aBM] at h
  have hat:=aBs (a:=⟨tmps,[]⟩) hS (.tmp t)
  simp only[St.at] at hat
  split at h
  . rename_i o U T cs' hc hT hl
    split at h
    . rename_i V c ho
      rw[Zi] at h
      split at h
      . rename_i hcc
        simp only[Zb,Za] at hcc
        obtain⟨⟨rfl,rfl⟩,hfit⟩:=hcc
        simp only[Zc] at h
        subst h
        rw[hc] at hat
        obtain⟨cs2,⟨h1,rfl⟩,hval⟩:=hat.1
        have hval:tmps.getD t undef=.pointer (some ⟨(φ o).b,(φ o).pre.length,none⟩):=by
         have:Act.eval ⟨tmps,[]⟩ (.tmp t)=tmps.getD t undef:=rfl
         rw[<-this,hval]
         simp[cS,CT.isSt,Ty.offp]
        obtain⟨g1,g2,mid,g3,g4,g5⟩:=hO.reps o _ ho
        have hml:=cells_len g2 g3
        obtain⟨vs,k1,k2⟩:=aCE hE hO hS l hl
        have hsg:fX ((φ o).pre++mid++(φ o).post) (φ o).pre.length V.sz=mid:=by
         unfold fX
         rw[Zk,List.drop_left,<-hml,List.take_left]
        have hld:(loadVar ty ⟨(φ o).b,(φ o).pre.length,none⟩).run cx.P w=.ok (cS V.isSt mid) w:=by
         have:=aD3 (off:=(φ o).pre.length) (hE.ty ty V hT) (pV g4) (by
          show _<=((φ o).pre++mid++(φ o).post).length
          simp only[Zf,hml];omega)
         rwa [hsg] at this
        refine⟨cS V.isSt mid::vs,⟨_,vs,rfl,sW g2 g3,fun q hq=>hO.names o _ ho q hq,k1⟩,?_⟩
        simp only[List.mapM_cons,aDQ,hval,asAddr,Sem.run_bind,Sem.run_pure,Result.andThen_ok,hld,k2]
      . cases h
    . cases h
  . cases h
theorem aIe{P:Program}{fn:Func}{tmps:Array Value}{vs:List Value}(h:(fn.results.toList.mapM (aDQ tmps)).run P w=.ok vs w):(results fn tmps).run P w=.ok (aGc vs) w:=by
 have e:(results fn tmps)=(do
  let vs <-fn.results.mapM (aDQ tmps)
  pure (if h:vs.size=1 then vs[0] else .tuple vs)):=by
  unfold results
  congr 1
 rw[e,Array.mapM_eq_mapM_toList]
 simp only[Sem.run_bind,Sem.run_map,h,Result.andThen_ok,Sem.run_pure]
 match vs with
 |[]=>rfl
 |[v]=>rfl
 |v::u::r=>rfl
theorem aCN{P:Program}{φ:Nat->dJ}{w:World}{Av:Nat->Prop}{objs:List (Nat×Obj)}:(cs:List SV)->{vs:List Value}->aC4 P φ w Av objs cs vs->vs.length=cs.length
 |[],vs,h=>by
  have:vs=[]:=h
  rw[this];rfl
 |s::cs,vs,h=>by
  obtain⟨v,r,rfl,_,_,_,h5⟩:=h
  simp[aCN cs h5]
theorem aB9{P:Program}{φ:Nat->dJ}{w:World}{Av:Nat->Prop}{objs:List (Nat×Obj)}:(cs:List SV)->{vs:List Value}->{t:Nat}->{s:SV}->{v:Value}->aC4 P φ w Av objs cs vs->cs[t]?=some s->vs[t]?=some v->
 (∀al,s.rep P φ w Av al v)/\∀q∈s.named,q∈objs.map (·.1)
 |[],vs,t,s,v,h,hs,hv=>by simp at hs
 |c::cs,vs,t,s,v,h,hs,hv=>by
  obtain⟨v0,r,rfl,h2,h3,_,h5⟩:=h
  cases t with
  |zero=>
   simp only[List.getElem?_cons_zero,Zc] at hs hv
   subst hs;subst hv
   exact⟨h2,h3⟩
  |succ t=>
   simp only[List.getElem?_cons_succ] at hs hv
   exact aB9 cs h5 hs hv
theorem aGD{σ:St}{fn:Func}{s:FS}{a:Act}{vs:List Value}{Fs:List (Nat->Prop)}{xs:oC s.ps}(hE:aS cx.P E)(hI:vG cx σ a w)(kn:yN cx.P cx.w0 cx.φ0 cx.pin s.ps xs 10000000 vs)(hck:aAR cx s.ps 10000000)(hfp:cx.fp0=kE Fs)
 (h:aMN E fn s.ps s.rs xs σ=some (s.fn xs)):bodyPost cx.P fn (aMG cx.w0 cx.Av0 s xs vs Fs) .normal a w:=by
 obtain⟨hd,φ,ψ,Av,hO,hS⟩:=hI
 unfold aMN at h
 split at h
 . cases h
 . rename_i cs hcs
   obtain⟨rv,g1,g2⟩:=aCE hE hO hS _ hcs
   obtain⟨x,L,hv,h⟩:=aAS _ h
   have hev:=aCR _ hv
   obtain⟨o,h1,hev⟩:=aG hev
   obtain⟨r,h3,h4⟩:=aG hev
   simp only[M.ev,Zc] at h4
   subst h4
   simp only[Zi] at h
   split at h
   . rename_i hc
     simp only[Zb,Bool.not_eq_true'] at hc
     obtain⟨hnd,hug⟩:=hc
     have hnd:=rA _ hnd
     have hug:∀q∈r.2.2,q∉o.2++r.2.1:=by
      intro q hq hg
      have:(r.2.2.any fun o'=>(o.2++r.2.1).any fun q=>Nat.beq q o')=true:=List.any_eq_true.2 ⟨q,hq,List.any_eq_true.2 ⟨q,hg,by simp⟩⟩
      rw[hug] at this;cases this
     simp only[Zc] at h
     have hnd':=hnd
     rw[List.nodup_append] at hnd'
     obtain⟨Gs,k1,k2,k3⟩:=xC hO s.ps xs 10000000 (Fs:=Fs) kn hck h1 hnd'.1
     obtain⟨Hs,j1,j2,j3⟩:=aDy hO (AvE:=fun b=>Av b\/Of φ ψ σ.objs r.2.2 b) (fun b hb=>.inl hb) s.rs cs g1 h3 hnd'.2.1 (fun b hb=>.inr hb)
     have hall:∀q,kE (Gs++Hs) q->Of φ ψ σ.objs (o.2++r.2.1) q:=by
      rintro q ⟨G,hG,hq⟩
      rcases Zp.1 hG with hG|hG
      . exact kG.2 (.inl (k3 q ⟨G,hG,hq⟩))
      . exact kG.2 (.inr (j3 q ⟨G,hG,hq⟩))
     refine⟨hd,aGc rv,aIe g2,rv,Gs,Hs,fun b=>Av b\/Of φ ψ σ.objs r.2.2 b,rfl,?_,?_,?_,fun q hq=>?_,fun b hb=>?_,fun b hb hno=>hO.frame b hb (by rw[hfp];exact hno),hO.grow⟩
     . rw[<-h]
       exact oM s.ps (.inl fun b hb=>.inl hb) o.1 k1
     . rw[<-h];exact j1
     . unfold oJ
       rw[List.pairwise_append]
       exact⟨k2,j2,fun G hG H hH q hq hq'=>jR hO hnd (k3 q ⟨G,hG,hq⟩) (j3 q ⟨H,hH,hq'⟩)⟩
     . obtain⟨o',x',_,hx,hq⟩:=hall q hq
       have:=hO.own o' x' hx q hq
       rw[hfp] at this
       exact this
     . rcases hb with hb|hb
       . obtain⟨e1,e2,e3⟩:=hO.av b hb
         rw[hfp] at e3
         refine⟨e1,fun hq=>?_,e3.imp id Or.symm⟩
         obtain⟨o',x',_,hx,hq⟩:=hall b hq
         exact e2 o' x' hx hq
       . obtain⟨o',x',ho',hx,hb⟩:=hb
         obtain⟨e1,e2⟩:=hO.own o' x' hx b hb
         rw[hfp] at e2
         refine⟨e1,fun hq=>?_,.inr e2⟩
         obtain⟨o2,x2,ho2,hx2,hq⟩:=hall b hq
         refine hO.disj o' x' o2 x2 hx hx2 ?_ b hb hq
         rintro rfl
         exact hug _ ho' ho2
   . cases h
def Ty.wf:(T:Ty)->T.D->Prop
 |.int k,n=>inK k n
 |.str,s=>length (α:=UInt8) s<=maxLen
 |.sl _ e,xs=>length (α:=e.D) xs<=maxLen/\∀(i:Nat) (x:e.D),(xs:List e.D)[i]?=some x->e.wf x
 |.pair a b,x=>a.wf x.1/\b.wf x.2
 |.bool,_=>True
 |.op,_=>True
 |.unit,_=>True
termination_by structural T=>T
def fW:(ps:List PM)->oC ps->Prop
 |[],_=>True
 |.val T _::ps,x=>T.wf x.1/\fW ps x.2
 |.mut T::ps,x=>T.wf x.1/\fW ps x.2
 |.ref T _::ps,x=>T.wf x.1/\fW ps x.2
 |.fn _ _::ps,x=>fW ps x.2
 |.peek T::ps,x=>T.wf x.1/\fW ps x.2
 |.cell _ _::ps,x=>fW ps x
 |.nil _ _::ps,x=>fW ps x
theorem xU{w:World}{Av:Nat->Prop}:(T:Ty)->{x:T.D}->{cs:List Value}->vK w Av T x cs->T.wf x
 |.int k,x,cs,h=>h.2
 |.bool,x,cs,h=>trivial
 |.str,x,cs,h=>h.2
 |.op,x,cs,h=>trivial
 |.unit,x,cs,h=>trivial
 |.pair a b,x,cs,h=>by
  obtain⟨c1,c2,_,h1,h2⟩:=h
  exact⟨xU a h1,xU b h2⟩
 |.sl t e,xs,cs,h=>by
  rcases h with⟨_,rfl⟩|⟨b,off,cap,sp,_,_,h2,h3⟩
  . exact⟨Nat.zero_le _,fun i x hx=>by simp at hx⟩
  . refine⟨h2,fun i x hx=>?_⟩
    rcases h3 with rfl|⟨_,_,l,_,_,h4⟩
    . simp at hx
    . exact xU e (h4 i x hx)
theorem aEx{w:World}:(T:Ty)->{x:T.D}->{cs:List Value}->{F:Nat->Prop}->qW w T x cs F->T.wf x
 |.int k,x,cs,F,h=>h.2.1
 |.bool,x,cs,F,h=>trivial
 |.str,x,cs,F,h=>h.2.1
 |.op,x,cs,F,h=>trivial
 |.unit,x,cs,F,h=>trivial
 |.pair a b,x,cs,F,h=>by
  obtain⟨c1,c2,F1,F2,_,_,_,h1,h2⟩:=h
  exact⟨aEx a h1,aEx b h2⟩
 |.sl t e,xs,cs,F,h=>by
  rcases h with⟨_,rfl,_⟩|⟨b,off,cap,c,E,fr,Fs,_,_,h1,h2,_,_,_,_,_,h4⟩
  . exact⟨Nat.zero_le _,fun i x hx=>by simp at hx⟩
  . exact⟨Nat.le_trans h1 h2.1,fun i x hx=>aEx e (h4 i x hx)⟩
theorem aH2{w:World}{Av:Nat->Prop}:(m:Md)->(T:Ty)->{x:T.D}->{cs:List Value}->{F:Nat->Prop}->rdM w Av m T x cs F->T.wf x
 |.f,T,x,cs,F,h=>xU T h.1
 |.o,T,x,cs,F,h=>aEx T h
 |.np _,T,x,cs,F,h=>xU T h.2.1
 |.pair m n,.pair a b,x,cs,F,h=>by
  obtain⟨c1,c2,F1,F2,_,_,_,h1,h2⟩:=h
  exact⟨aH2 m a h1,aH2 n b h2⟩
 |.pair _ _,.int _,x,cs,F,h=>xU _ h.2.1
 |.pair _ _,.bool,x,cs,F,h=>xU .bool h.2.1
 |.pair _ _,.str,x,cs,F,h=>xU .str h.2.1
 |.pair _ _,.op,x,cs,F,h=>trivial
 |.pair _ _,.sl _ _,x,cs,F,h=>xU _ h.2.1
 |.pair _ _,.unit,x,cs,F,h=>trivial
theorem pR{P:Program}{w:World}{Av:Nat->Prop}:(ps:List PM)->{xs:oC ps}->{vs:List Value}->{Fs:List (Nat->Prop)}->xQ P w Av ps xs vs Fs->fW ps xs
 |[],_,_,_,_=>trivial
 |.val T m::ps,xs,vs,Fs,h=>by
  obtain⟨v,r,F,Gs,_,_,⟨cs,_,h1⟩,h2⟩:=h
  exact⟨aH2 m T h1,pR ps h2⟩
 |.mut T::ps,xs,vs,Fs,h=>by
  obtain⟨v,r,F,Gs,_,_,⟨cs,_,h1⟩,h2⟩:=h
  exact⟨aEx T h1,pR ps h2⟩
 |.ref T m::ps,xs,vs,Fs,h=>by
  obtain⟨v,r,F,Gs,_,_,⟨b,off,c,E,fr,F0,_,_,_,_,h1,_⟩,h2⟩:=h
  exact⟨aH2 m T h1,pR ps h2⟩
 |.peek T::ps,xs,vs,Fs,h=>by
  obtain⟨v,r,F,Gs,_,_,⟨⟨b,off,l,_,_,_,_,h1⟩,_⟩,h2⟩:=h
  exact⟨xU T h1,pR ps h2⟩
 |.fn _ _::ps,xs,vs,Fs,h=>by
  obtain⟨v,r,F,Gs,_,_,_,h2⟩:=h
  exact pR ps h2
 |.cell _ _::ps,xs,vs,Fs,h=>by
  obtain⟨v,r,F,Gs,_,_,_,h2⟩:=h
  exact pR ps h2
 |.nil _ _::ps,xs,vs,Fs,h=>by
  obtain⟨v,r,F,Gs,_,_,_,h2⟩:=h
  exact pR ps h2
theorem aOF{P:Program}{E:eI}{f:FuncId}{fn:Func}{s:FS}(hE:aS P E)(hm:P.follows .mixedOrders=true)(hnorm:∀(cx:Cx) h σ a w,cx.P=P->vG cx σ a w->vG cx (σ.norm h) a w)(hf:P.funcs[f]?=some fn)
 (H:List LC) (hl:∀c,fn.body=some c->aH E H c) (hrun:∀xs,fW s.ps xs->s.pre xs=true->bB E H fn s.ps s.rs xs=some (s.fn xs)):bA P f s:=by
 intro w Av vs xs Fs hrep hap hAv hFs hpre
 have hr:=hrun xs (pR s.ps hrep) hpre
 unfold bB at hr
 cases hb:fn.body with
 |none=>rw[hb] at hr;cases hr
 |some c=>
  rw[hb] at hr
  simp only[Zi] at hr
  split at hr
  . rename_i hfit
    obtain⟨hfit,hnc⟩:=Bool.and_eq_true_iff.1 hfit
    obtain⟨φ,ψ,st,kn⟩:=qV (P:=P) s.ps xs 10000000 hrep hap hfit (Nat.le_refl _) (fun _=>⟨0,0,(0,0),[],[],.unit,undef,.unit⟩) (fun _ _=>False)
    let cx:Cx:=⟨P,w,Av,kE Fs,(dD s.ps xs 10000000).objs.map (·.1),φ⟩
    have hin:∀q∈(dD s.ps xs 10000000).objs.map (·.1),(find (dD s.ps xs 10000000).objs q).isSome=true:=by
     intro q hq
     obtain⟨p,hp,rfl⟩:=List.mem_map.1 hq
     rw[mH st.nod (o:=p.1) (a:=p.2) hp];rfl
    have hO:iH cx φ ψ Av (dD s.ps xs 10000000).objs w:=by
     refine⟨fun o x ho=>st.rep _ (iW ho) _,fun o x o' x' ho ho' hne q hq hq'=>st.dis _ (iW ho) _ (iW ho') hne q hq hq',fun o x ho q hq=>?_,fun o x ho q hq=>hin q ((st.named _ (iW ho)).1 q hq),
      fun b hb=>⟨(hAv b hb).1,fun o x ho hq=>(hAv b hb).2 (st.fp _ (iW ho) b hq),.inl hb⟩,fun _ h=>h,vF.rfl' _,fun _ _ _=>rfl,fun o ho=>⟨rfl,?_⟩⟩
     . have:=st.fp _ (iW ho) q hq
       exact⟨hFs q this,.inl this⟩
     . obtain⟨p,hp,rfl⟩:=List.mem_map.1 ho
       have:=st.keys p hp
       unfold Rng at this
       omega
    have hlv:=aCN _ st.slots
    have hinit:init s.ps xs fn.ntmps=⟨(dD s.ps xs 10000000).cs++List.replicate (fn.ntmps-(dD s.ps xs 10000000).cs.length) (.one .skip),(dD s.ps xs 10000000).objs⟩:=rfl
    have hS:kV P φ Av (init s.ps xs fn.ntmps) (vs.toArray++Array.replicate (fn.ntmps-vs.toArray.size) undef) w:=by
     rw[hinit]
     refine⟨?_,fun t x v hx hv=>?_,fun t x hx q hq=>?_⟩
     . simp[hlv]
     . show x.rep P φ w Av _ v
       have hx:((dD s.ps xs 10000000).cs++List.replicate (fn.ntmps-(dD s.ps xs 10000000).cs.length) (.one .skip))[t]?=some x:=hx
       rw[<-Array.getElem?_toList,Array.toList_append] at hv
       rcases Nat.lt_or_ge t (dD s.ps xs 10000000).cs.length with hlt|hge
       . rw[List.getElem?_append_left hlt] at hx
         rw[List.getElem?_append_left (by show _<vs.length;omega)] at hv
         exact(aB9 _ st.slots hx hv).1 _
       . rw[List.getElem?_append_right hge,List.getElem?_replicate] at hx
         rw[List.getElem?_append_right (by show vs.length<=_;omega)] at hv
         split at hx
         . simp only[Zc] at hx
           subst hx
           simp only[Array.toList_replicate,List.getElem?_replicate] at hv
           split at hv
           . simp only[Zc] at hv
             exact hv.symm
           . cases hv
         . cases hx
     . have hx:((dD s.ps xs 10000000).cs++List.replicate (fn.ntmps-(dD s.ps xs 10000000).cs.length) (.one .skip))[t]?=some x:=hx
       rcases Nat.lt_or_ge t (dD s.ps xs 10000000).cs.length with hlt|hge
       . rw[List.getElem?_append_left hlt] at hx
         have hv:vs[t]?=some vs[t]:=Zm (by omega)
         exact hin q ((aB9 _ st.slots hx hv).2 q hq)
       . rw[List.getElem?_append_right hge,List.getElem?_replicate] at hx
         split at hx
         . simp only[Zc] at hx
           subst hx;cases hq
         . cases hx
    refine calls_of_wp hf hb ?_
    refine xF (cx:=cx) hE hm (fun h σ a w hI=>hnorm cx h σ a w rfl hI) c (hl c hb) hr ⟨rfl,φ,ψ,Av,hO,hS⟩ fun e σ' he a' w' hI'=>?_
    cases e with
    |exit id=>cases he
    |normal=>exact aGD (cx:=cx) hE hI' kn (pH _ _ hnc) rfl he
    |ret=>exact aGD (cx:=cx) hE hI' kn (pH _ _ hnc) rfl he
  . cases hr
theorem pS:(ps:List PM)->(n:Nat)->(l:List (Nat×Obj))->(o:Nat)->find (nK ps n l) o=find l o\/
 ∃j k T,ps[j]?=some (.cell k T)/\o=n+64*j/\find (nK ps n l) o=some (.box .op (.bptr (10000000+64*k) [] T))
 |[],_,_,_=>.inl rfl
 |p::ps,n,l,o=>by
  have rest:nK (p::ps) n l=nK ps (n+64) l->find (nK (p::ps) n l) o=find l o\/∃j k T,(p::ps)[j]?=some (.cell k T)/\o=n+64*j/\find (nK (p::ps) n l) o=some (.box .op (.bptr (10000000+64*k) [] T)):=by
   intro e
   rw[e]
   rcases pS ps (n+64) l o with h|⟨j,k,T,h1,h2,h3⟩
   . exact .inl h
   . exact .inr ⟨j+1,k,T,h1,by omega,h3⟩
  cases p with
  |cell k T=>
   have e:nK (.cell k T::ps) n l=put (nK ps (n+64) l) n (.box .op (.bptr (10000000+64*k) [] T)):=rfl
   rw[e,aAF]
   by_cases ho:n=o
   . rw[if_pos ho]
     exact .inr ⟨0,k,T,rfl,by omega,rfl⟩
   . rw[if_neg ho]
     rcases pS ps (n+64) l o with h|⟨j,k',T',h1,h2,h3⟩
     . exact .inl h
     . exact .inr ⟨j+1,k',T',h1,by omega,h3⟩
  |_=>exact rest rfl
theorem oN:(ps:List PM)->(xs:oC ps)->(n:Nat)->(j:Nat)->(p:PM)->ps[j]?=some p->
 (∀k T,p=.cell k T->(n+64*j,Obj.box .op .undef)∈(dD ps xs n).objs/\(dD ps xs n).cs[j]?=some (.one (.bptr (n+64*j) [] .op)))/\
 (∀T m,p=.ref T m->(∃c,(n+64*j,Obj.box T c)∈(dD ps xs n).objs)/\(dD ps xs n).cs[j]?=some (.one (.bptr (n+64*j) [] T)))
 |[],_,_,_,_,h=>by cases h
 |.cell k T::ps,xs,n,0,p,h=>by
  simp only[List.getElem?_cons_zero,Zc] at h
  subst h
  exact⟨fun k' T' _=>⟨List.mem_cons_self ..,rfl⟩,fun _ _ h=>(by cases h)⟩
 |.ref T m::ps,xs,n,0,p,h=>by
  simp only[List.getElem?_cons_zero,Zc] at h
  subst h
  exact⟨fun _ _ h=>(by cases h),fun T' m' h=>(by cases h;exact⟨⟨_,List.mem_cons_self ..⟩,rfl⟩)⟩
 |.val T m::ps,xs,n,0,p,h=>by
  simp only[List.getElem?_cons_zero,Zc] at h
  subst h
  exact⟨fun _ _ h=>(by cases h),fun _ _ h=>(by cases h)⟩
 |.mut T::ps,xs,n,0,p,h=>by
  simp only[List.getElem?_cons_zero,Zc] at h
  subst h
  exact⟨fun _ _ h=>(by cases h),fun _ _ h=>(by cases h)⟩
 |.fn A B::ps,xs,n,0,p,h=>by
  simp only[List.getElem?_cons_zero,Zc] at h
  subst h
  exact⟨fun _ _ h=>(by cases h),fun _ _ h=>(by cases h)⟩
 |.peek T::ps,xs,n,0,p,h=>by
  simp only[List.getElem?_cons_zero,Zc] at h
  subst h
  exact⟨fun _ _ h=>(by cases h),fun _ _ h=>(by cases h)⟩
 |.nil t e::ps,xs,n,0,p,h=>by
  simp only[List.getElem?_cons_zero,Zc] at h
  subst h
  exact⟨fun _ _ h=>(by cases h),fun _ _ h=>(by cases h)⟩
 |.cell k T::ps,xs,n,j+1,p,h=>by
  have ih:=oN ps xs (n+64) j p h
  rw[show n+64+64*j=n+64*(j+1) by omega] at ih
  exact⟨fun k T h=>⟨Zo _ (ih.1 k T h).1,(ih.1 k T h).2⟩,fun T m h=>⟨(ih.2 T m h).1.imp fun c hc=>Zo _ hc,(ih.2 T m h).2⟩⟩
 |.ref T m::ps,xs,n,j+1,p,h=>by
  have ih:=oN ps xs.2 (n+64) j p h
  rw[show n+64+64*j=n+64*(j+1) by omega] at ih
  exact⟨fun k T h=>⟨List.mem_append_right (_::_) (ih.1 k T h).1,(ih.1 k T h).2⟩,fun T m h=>⟨(ih.2 T m h).1.imp fun c hc=>List.mem_append_right (_::_) hc,(ih.2 T m h).2⟩⟩
 |.val T m::ps,xs,n,j+1,p,h=>by
  have ih:=oN ps xs.2 (n+64) j p h
  rw[show n+64+64*j=n+64*(j+1) by omega] at ih
  exact⟨fun k T h=>⟨List.mem_append_right _ (ih.1 k T h).1,(ih.1 k T h).2⟩,fun T m h=>⟨(ih.2 T m h).1.imp fun c hc=>List.mem_append_right _ hc,(ih.2 T m h).2⟩⟩
 |.mut T::ps,xs,n,j+1,p,h=>by
  have ih:=oN ps xs.2 (n+64) j p h
  rw[show n+64+64*j=n+64*(j+1) by omega] at ih
  exact⟨fun k T h=>⟨List.mem_append_right _ (ih.1 k T h).1,(ih.1 k T h).2⟩,fun T m h=>⟨(ih.2 T m h).1.imp fun c hc=>List.mem_append_right _ hc,(ih.2 T m h).2⟩⟩
 |.fn A B::ps,xs,n,j+1,p,h=>by
  have ih:=oN ps xs.2 (n+64) j p h
  rw[show n+64+64*j=n+64*(j+1) by omega] at ih
  exact⟨fun k T h=>ih.1 k T h,fun T m h=>ih.2 T m h⟩
 |.peek T::ps,xs,n,j+1,p,h=>by
  have ih:=oN ps xs.2 (n+64) j p h
  rw[show n+64+64*j=n+64*(j+1) by omega] at ih
  exact⟨fun k T h=>ih.1 k T h,fun T m h=>ih.2 T m h⟩
 |.nil t e::ps,xs,n,j+1,p,h=>by
  have ih:=oN ps xs (n+64) j p h
  rw[show n+64+64*j=n+64*(j+1) by omega] at ih
  exact⟨fun k T h=>ih.1 k T h,fun T m h=>ih.2 T m h⟩
theorem vQ{all:List PM}:(ps:List PM)->yF all ps=true->(j:Nat)->(p:PM)->ps[j]?=some p->(∃T m,p=.ref T m)\/∃k T m,p=.cell k T/\all[k]?=some (.ref T m)
 |[],_,j,p,h=>by cases h
 |.cell k T::ps,hc,0,p,h=>by
  simp only[List.getElem?_cons_zero,Zc] at h
  subst h
  simp only[yF,Zb] at hc
  have hc:=hc.1
  split at hc
  . rename_i U m hk
    have:=Ze hc
    subst this
    exact .inr ⟨k,_,m,rfl,hk⟩
  . cases hc
 |.ref T m::ps,hc,0,p,h=>by
  simp only[List.getElem?_cons_zero,Zc] at h
  subst h
  exact .inl ⟨T,m,rfl⟩
 |.cell k T::ps,hc,j+1,p,h=>by
  simp only[yF,Zb] at hc
  exact vQ ps hc.2 j p h
 |.ref T m::ps,hc,j+1,p,h=>vQ ps hc j p h
 |.val T m::ps,hc,_,p,h=>by cases hc
 |.mut T::ps,hc,_,p,h=>by cases hc
 |.fn A B::ps,hc,_,p,h=>by cases hc
 |.peek T::ps,hc,_,p,h=>by cases hc
 |.nil t e::ps,hc,_,p,h=>by cases hc
theorem pI{w:World}{all:List Value}:(ps:List PM)->(vs:List Value)->aCt w all ps vs->(j:Nat)->(k:Nat)->(T:Ty)->ps[j]?=some (.cell k T)->∃b off l,vs[j]?=some (.pointer (some ⟨b,off,none⟩))/\blk w b=some l/\l[off]?=some (all.getD k undef)
 |[],_,_,j,k,T,h=>by cases h
 |.cell k' T'::ps,vs,hc,0,k,T,h=>by
  simp only[List.getElem?_cons_zero,Zc,PM.cell.injEq] at h
  obtain⟨rfl,rfl⟩:=h
  obtain⟨⟨b,off,l,h1,h2,h3⟩,_⟩:=hc
  exact⟨b,off,l,by rw[<-List.head?_eq_getElem?];exact h1,h2,h3⟩
 |.val _ _::ps,vs,hc,0,k,T,h=>by cases h
 |.mut _::ps,vs,hc,0,k,T,h=>by cases h
 |.ref _ _::ps,vs,hc,0,k,T,h=>by cases h
 |.fn _ _::ps,vs,hc,0,k,T,h=>by cases h
 |.peek _::ps,vs,hc,0,k,T,h=>by cases h
 |.nil _ _::ps,vs,hc,0,k,T,h=>by cases h
 |.cell _ _::ps,vs,hc,j+1,k,T,h=>by
  have:=pI ps vs.tail hc.2 j k T h
  rw[List.getElem?_tail] at this;exact this
 |.val _ _::ps,vs,hc,j+1,k,T,h=>by
  have:=pI ps vs.tail hc j k T h
  rw[List.getElem?_tail] at this;exact this
 |.mut _::ps,vs,hc,j+1,k,T,h=>by
  have:=pI ps vs.tail hc j k T h
  rw[List.getElem?_tail] at this;exact this
 |.ref _ _::ps,vs,hc,j+1,k,T,h=>by
  have:=pI ps vs.tail hc j k T h
  rw[List.getElem?_tail] at this;exact this
 |.fn _ _::ps,vs,hc,j+1,k,T,h=>by
  have:=pI ps vs.tail hc j k T h
  rw[List.getElem?_tail] at this;exact this
 |.peek _::ps,vs,hc,j+1,k,T,h=>by
  have:=pI ps vs.tail hc j k T h
  rw[List.getElem?_tail] at this;exact this
 |.nil _ _::ps,vs,hc,j+1,k,T,h=>by
  have:=pI ps vs.tail hc j k T h
  rw[List.getElem?_tail] at this;exact this
theorem qM{P:Program}{w:World}{φ:Nat->dJ}{K:List Nat}:(ps:List PM)->(xs:oC ps)->(n:Nat)->(vs:List Value)->yN P w φ K ps xs n vs->(j:Nat)->(k:Nat)->(T:Ty)->ps[j]?=some (.cell k T)->
 n+64*j∈K/\vs[j]?=some (.pointer (some ⟨(φ (n+64*j)).b,(φ (n+64*j)).pre.length,none⟩))
 |[],_,_,_,_,j,k,T,h=>by cases h
 |.cell k' T'::ps,xs,n,vs,hk,0,k,T,h=>by
  obtain⟨⟨h1,_,c,h2,_⟩,_⟩:=hk
  exact⟨h1,by rw[<-List.head?_eq_getElem?];exact h2⟩
 |.val _ _::ps,xs,n,vs,hk,0,k,T,h=>by cases h
 |.mut _::ps,xs,n,vs,hk,0,k,T,h=>by cases h
 |.ref _ _::ps,xs,n,vs,hk,0,k,T,h=>by cases h
 |.fn _ _::ps,xs,n,vs,hk,0,k,T,h=>by cases h
 |.peek _::ps,xs,n,vs,hk,0,k,T,h=>by cases h
 |.nil _ _::ps,xs,n,vs,hk,0,k,T,h=>by cases h
 |.cell _ _::ps,xs,n,vs,hk,j+1,k,T,h=>by
  have:=qM ps xs (n+64) vs.tail hk.2 j k T h
  rw[List.getElem?_tail,show n+64+64*j=n+64*(j+1) by omega] at this;exact this
 |.val _ _::ps,xs,n,vs,hk,j+1,k,T,h=>by
  have:=qM ps xs.2 (n+64) vs.tail hk j k T h
  rw[List.getElem?_tail,show n+64+64*j=n+64*(j+1) by omega] at this;exact this
 |.mut _::ps,xs,n,vs,hk,j+1,k,T,h=>by
  have:=qM ps xs.2 (n+64) vs.tail hk.2 j k T h
  rw[List.getElem?_tail,show n+64+64*j=n+64*(j+1) by omega] at this;exact this
 |.ref _ _::ps,xs,n,vs,hk,j+1,k,T,h=>by
  have:=qM ps xs.2 (n+64) vs.tail hk.2 j k T h
  rw[List.getElem?_tail,show n+64+64*j=n+64*(j+1) by omega] at this;exact this
 |.fn _ _::ps,xs,n,vs,hk,j+1,k,T,h=>by
  have:=qM ps xs.2 (n+64) vs.tail hk j k T h
  rw[List.getElem?_tail,show n+64+64*j=n+64*(j+1) by omega] at this;exact this
 |.peek _::ps,xs,n,vs,hk,j+1,k,T,h=>by
  have:=qM ps xs.2 (n+64) vs.tail hk j k T h
  rw[List.getElem?_tail,show n+64+64*j=n+64*(j+1) by omega] at this;exact this
 |.nil _ _::ps,xs,n,vs,hk,j+1,k,T,h=>by
  have:=qM ps xs (n+64) vs.tail hk j k T h
  rw[List.getElem?_tail,show n+64+64*j=n+64*(j+1) by omega] at this;exact this
theorem aFT{cx:Cx}{all:List PM}:(ps:List PM)->(n:Nat)->(∀j k T,ps[j]?=some (.cell k T)->10000000+64*k∈cx.pin/\∀c E fr,cx.w0.heap[(cx.φ0 (n+64*j)).b]?=some (.cells c E fr)->
 c.toList[(cx.φ0 (n+64*j)).pre.length]?=some (.pointer (some ⟨(cx.φ0 (10000000+64*k)).b,(cx.φ0 (10000000+64*k)).pre.length,none⟩)))->aAR cx ps n
 |[],_,_=>trivial
 |p::ps,n,h=>by
  have rest:aAR cx ps (n+64):=aFT (all:=all) ps (n+64) fun j k T hj=>by
   have:=h (j+1) k T hj
   rw[show n+64*(j+1)=n+64+64*j by omega] at this
   exact this
  cases p with
  |cell k T=>exact⟨h 0 k T rfl,rest⟩
  |_=>exact rest
theorem aMC{cs:List SV}{k:Nat}{c:CT}(h:cs[k]?=some (.one c)):aJq cs k=c:=by
 unfold aJq
 rw[aGl h]
theorem fn_okW{P:Program}{E:eI}{f:FuncId}{fn:Func}{s:FS}{real:List Wi}(hE:aS P E)(hm:P.follows .mixedOrders=true)(hnorm:∀(cx:Cx) h σ a w,cx.P=P->vG cx σ a w->vG cx (σ.norm h) a w)(hf:P.funcs[f]?=some fn)
 (H:List LC) (hl:∀c,fn.body=some c->aH E H c) (hrun:∀xs,fW s.ps xs->s.pre xs=true->qL E H fn s.ps s.rs real xs=some (s.fn xs)):pU P f s real:=by
 intro w Av vs xs Fs hrep hap hAv hFs hcell hpre
 have hr:=hrun xs (pR s.ps hrep) hpre
 unfold qL at hr
 cases hb:fn.body with
 |none=>rw[hb] at hr;cases hr
 |some c=>
  rw[hb] at hr
  simp only[Zi] at hr
  split at hr
  . rename_i hfit
    simp only[Zb] at hfit
    obtain⟨⟨hfit,hcf⟩,hlt⟩:=hfit
    obtain⟨φ,ψ,st,kn⟩:=qV (P:=P) s.ps xs 10000000 hrep hap hfit (Nat.le_refl _) (fun _=>⟨0,0,(0,0),[],[],.unit,undef,.unit⟩) (fun _ _=>False)
    let cx:Cx:=⟨P,w,Av,kE Fs,(dD s.ps xs 10000000).objs.map (·.1),φ⟩
    have hin:∀q∈(dD s.ps xs 10000000).objs.map (·.1),(find (dD s.ps xs 10000000).objs q).isSome=true:=by
     intro q hq
     obtain⟨p,hp,rfl⟩:=List.mem_map.1 hq
     rw[mH st.nod (o:=p.1) (a:=p.2) hp];rfl
    have hin':∀q,(find (dD s.ps xs 10000000).objs q).isSome=true->(find (nK s.ps 10000000 (dD s.ps xs 10000000).objs) q).isSome=true:=by
     intro q hq
     rcases pS s.ps 10000000 (dD s.ps xs 10000000).objs q with h|⟨j,k,T,_,_,h⟩
     . rw[h];exact hq
     . rw[h];rfl
    have hlv:=aCN _ st.slots
    have hpar:∀k p,s.ps[k]?=some p->∃T,(dD s.ps xs 10000000).cs[k]?=some (.one (.bptr (10000000+64*k) [] T))/\(∀al,(CT.bptr (10000000+64*k) [] T).val P φ w Av al (vs.getD k undef))/\
     10000000+64*k∈(dD s.ps xs 10000000).objs.map (·.1)/\(φ (10000000+64*k)).T=T:=by
     intro k p hp
     have key:∀T c,(dD s.ps xs 10000000).cs[k]?=some (.one (.bptr (10000000+64*k) [] T))->(10000000+64*k,Obj.box T c)∈(dD s.ps xs 10000000).objs->∃T,(dD s.ps xs 10000000).cs[k]?=some (.one (.bptr (10000000+64*k) [] T))/\(∀al,(CT.bptr (10000000+64*k) [] T).val P φ w Av al (vs.getD k undef))/\
      10000000+64*k∈(dD s.ps xs 10000000).objs.map (·.1)/\(φ (10000000+64*k)).T=T:=by
      intro T c h1 h2
      have hv:vs[k]?=some (vs.getD k undef):=by
       have:=(List.getElem?_eq_some_iff.1 h1).1
       rw[List.getD_eq_getElem?_getD,Zm (by omega)];rfl
      refine⟨T,h1,fun al=>(aB9 _ st.slots h1 hv).1 al,List.mem_map.2 ⟨_,h2,rfl⟩,(st.rep _ h2 (fun _=>True)).1⟩
     obtain⟨m1,m2⟩:=oN s.ps xs 10000000 k p hp
     rcases vQ s.ps hcf k p hp with⟨T,m,rfl⟩|⟨k',T,m,rfl,_⟩
     . obtain⟨⟨c,hc⟩,h1⟩:=m2 T m rfl
       exact key T c h1 hc
     . obtain⟨hc,h1⟩:=m1 k' T rfl
       exact key .op .undef h1 hc
    have hval:∀k T m,s.ps[k]?=some (.ref T m)->vs.getD k undef=.pointer (some ⟨(φ (10000000+64*k)).b,(φ (10000000+64*k)).pre.length,none⟩)/\(φ (10000000+64*k)).T=T/\10000000+64*k∈(dD s.ps xs 10000000).objs.map (·.1):=by
     intro k T m hk
     obtain⟨T',h1,h2,h3,h4⟩:=hpar k _ hk
     have:=yM (h2 (fun _=>True))
     obtain⟨_,g2⟩:=oN s.ps xs 10000000 k _ hk
     obtain⟨_,g3⟩:=g2 T m rfl
     rw[h1] at g3
     simp only[Zc,SV.one.injEq,CT.bptr.injEq] at g3
     refine⟨by rw[this];rfl,by rw[h4,g3.2.2],h3⟩
    have hcells:∀j k T,s.ps[j]?=some (.cell k T)->(∃c,blk w (φ (10000000+64*j)).b=some ((φ (10000000+64*j)).pre++[c]++(φ (10000000+64*j)).post)/\c=.pointer (some ⟨(φ (10000000+64*k)).b,(φ (10000000+64*k)).pre.length,none⟩)/\
     w.heap[(φ (10000000+64*j)).b]?=some (.cells ((φ (10000000+64*j)).pre++[c]++(φ (10000000+64*j)).post).toArray (φ (10000000+64*j)).E (φ (10000000+64*j)).fr))/\(φ (10000000+64*k)).T=T/\10000000+64*k∈(dD s.ps xs 10000000).objs.map (·.1)/\
     (φ (10000000+64*j)).T=.op/\xV (φ (10000000+64*j)).fr (φ (10000000+64*j)).pre.length 1/\(10000000+64*j,Obj.box .op .undef)∈(dD s.ps xs 10000000).objs:=by
     intro j k T hj
     rcases vQ s.ps hcf j _ hj with⟨T',m,h⟩|⟨k',T',m,h,hk⟩
     . cases h
     . cases h
       obtain⟨v1,v2,v3⟩:=hval k T m hk
       obtain⟨m1,_⟩:=oN s.ps xs 10000000 j _ hj
       obtain⟨hmem,_⟩:=m1 k T rfl
       obtain⟨r1,r2,mid,⟨c,rfl,hone⟩,r4,r5⟩:=st.rep _ hmem (fun _=>True)
       obtain⟨b,off,l,c1,c2,c3⟩:=pI s.ps vs hcell j k T hj
       obtain⟨_,kv⟩:=qM s.ps xs 10000000 vs kn j k T hj
       rw[c1] at kv
       simp only[Zc,Value.pointer.injEq,Addr.mk.injEq,and_true] at kv
       obtain⟨rfl,rfl⟩:=kv
       have hblk:blk w (φ (10000000+64*j)).b=some ((φ (10000000+64*j)).pre++[c]++(φ (10000000+64*j)).post):=by simp[blk,r4]
       rw[hblk] at c2
       simp only[Zc] at c2
       subst c2
       rw[Zk,List.getElem?_append_right (Nat.le_refl _),Nat.sub_self] at c3
       have hc:c=vs.getD k undef:=by simpa using c3
       exact⟨⟨c,hblk,hc.trans v1,r4⟩,v2,v3,r1,r5,hmem⟩
    have hold:∀o x,find (nK s.ps 10000000 (dD s.ps xs 10000000).objs) o=some x->∃y,find (dD s.ps xs 10000000).objs o=some y/\(∀q,kL φ ψ o x q↔kL φ ψ o y q):=by
     intro o x ho
     rcases pS s.ps 10000000 (dD s.ps xs 10000000).objs o with h|⟨j,k,T,hj,rfl,h⟩
     . rw[h] at ho;exact⟨x,ho,fun _=>Iff.rfl⟩
     . rw[h] at ho
       cases ho
       have:=(hcells j k T hj).2.2.2.2.2
       exact⟨_,mH st.nod (o:=10000000+64*j) (a:=Obj.box .op .undef) this,fun _=>Iff.rfl⟩
    have hO:iH cx φ ψ Av (nK s.ps 10000000 (dD s.ps xs 10000000).objs) w:=by
     refine⟨fun o x ho=>?_,fun o x o' x' ho ho' hne q hq hq'=>?_,fun o x ho q hq=>?_,fun o x ho q hq=>?_,
      fun b hb=>⟨(hAv b hb).1,fun o x ho hq=>?_,.inl hb⟩,fun _ h=>h,vF.rfl' _,fun _ _ _=>rfl,fun o ho=>⟨rfl,?_⟩⟩
     . rcases pS s.ps 10000000 (dD s.ps xs 10000000).objs o with h|⟨j,k,T,hj,rfl,h⟩
       . rw[h] at ho;exact st.rep _ (iW ho) _
       . rw[h] at ho
         cases ho
         obtain⟨⟨c,h1,h2,h3⟩,h4,h5,h6,h7,_⟩:=hcells j k T hj
         refine⟨h6,rfl,[c],⟨?_,?_⟩,h3,h7⟩
         . simp[Ty.atn,h4]
         . rw[h2];rfl
     . obtain⟨y,hy,e⟩:=hold o x ho
       obtain⟨y',hy',e'⟩:=hold o' x' ho'
       exact st.dis _ (iW hy) _ (iW hy') hne q ((e q).1 hq) ((e' q).1 hq')
     . obtain⟨y,hy,e⟩:=hold o x ho
       have:=st.fp _ (iW hy) q ((e q).1 hq)
       exact⟨hFs q this,.inl this⟩
     . rcases pS s.ps 10000000 (dD s.ps xs 10000000).objs o with h|⟨j,k,T,hj,rfl,h⟩
       . rw[h] at ho;exact hin' q (hin q ((st.named _ (iW ho)).1 q hq))
       . rw[h] at ho
         cases ho
         simp only[Obj.named,CT.named,Zq] at hq
         subst hq
         exact hin' _ (hin _ (hcells j k T hj).2.2.1)
     . obtain⟨y,hy,e⟩:=hold o x ho
       exact(hAv b hb).2 (st.fp _ (iW hy) b ((e b).1 hq))
     . obtain⟨p,hp,rfl⟩:=List.mem_map.1 ho
       have:=st.keys p hp
       unfold Rng at this
       omega
    have hreal:∀a∈real,(∀al,(a.slot (dD s.ps xs 10000000).cs).rep P φ w Av al (a.val vs))/\∀q∈(a.slot (dD s.ps xs 10000000).cs).named,q∈(dD s.ps xs 10000000).objs.map (·.1):=by
     intro a ha
     have hla:=Zu.1 hlt a ha
     have hnth:∀k,k<s.ps.length->∃T,aJq (dD s.ps xs 10000000).cs k=.bptr (10000000+64*k) [] T/\(∀al,(CT.bptr (10000000+64*k) [] T).val P φ w Av al (vs.getD k undef))/\10000000+64*k∈(dD s.ps xs 10000000).objs.map (·.1):=by
      intro k hk
      obtain⟨T,h1,h2,h3,_⟩:=hpar k _ (Zm hk)
      exact⟨T,aMC h1,h2,h3⟩
     cases a with
     |par k=>
      obtain⟨T,h1,h2,h3⟩:=hnth k (Nat.blt_eq▸hla)
      simp only[Wi.slot,h1]
      exact⟨h2,fun q hq=>by
       simp only[SV.named,CT.named,Zq] at hq
       subst hq;exact h3⟩
     |clo g ks=>
      have hks:∀k∈ks,k<s.ps.length:=fun k hk=>Nat.blt_eq▸(Zu.1 hla k hk)
      have hcaps:∀al,(aA9 (ks.map (aJq (dD s.ps xs 10000000).cs))).caps P φ w Av al (ks.map fun k=>vs.getD k undef)/\∀q∈(aA9 (ks.map (aJq (dD s.ps xs 10000000).cs))).named,q∈(dD s.ps xs 10000000).objs.map (·.1):=by
       intro al
       clear hla ha
       induction ks with
       |nil=>exact⟨rfl,fun q hq=>by cases hq⟩
       |cons k ks ih=>
        obtain⟨i1,i2⟩:=ih (fun k hk=>hks k (Zo _ hk))
        obtain⟨T,h1,h2,h3⟩:=hnth k (hks k (List.mem_cons_self ..))
        simp only[List.map_cons,aA9,h1]
        obtain⟨cs,hc,hv⟩:=h2 al
        exact⟨⟨_,_,rfl,⟨cs,hc,hv⟩,i1⟩,fun q hq=>by
         simp only[CT.named,Zp,Zq] at hq
         rcases hq with hq|hq
         . subst hq;exact h3
         . exact i2 q hq⟩
      exact⟨fun al=>⟨_,⟨_,rfl,(hcaps al).1⟩,rfl⟩,fun q hq=>(hcaps (fun _=>True)).2 q hq⟩
    have hinit:aLp s.ps real xs fn.ntmps=⟨real.map (Wi.slot (dD s.ps xs 10000000).cs)++List.replicate (fn.ntmps-real.length) (.one .skip),nK s.ps 10000000 (dD s.ps xs 10000000).objs⟩:=rfl
    have hS:kV P φ Av (aLp s.ps real xs fn.ntmps) ((real.map (Wi.val vs)).toArray++Array.replicate (fn.ntmps-(real.map (Wi.val vs)).toArray.size) undef) w:=by
     rw[hinit]
     refine⟨?_,fun t x v hx hv=>?_,fun t x hx q hq=>?_⟩
     . simp
     . show x.rep P φ w Av _ v
       have hx:(real.map (Wi.slot (dD s.ps xs 10000000).cs)++List.replicate (fn.ntmps-real.length) (.one .skip))[t]?=some x:=hx
       rw[<-Array.getElem?_toList,Array.toList_append] at hv
       rcases Nat.lt_or_ge t real.length with hlt|hge
       . rw[List.getElem?_append_left (by simpa using hlt),List.getElem?_map,Zm hlt] at hx
         rw[List.getElem?_append_left (by simpa using hlt)] at hv
         simp only[List.getElem?_map,Zm hlt,Option.map_some,Zc] at hx hv
         subst hx;subst hv
         exact(hreal _ (List.getElem_mem hlt)).1 _
       . rw[List.getElem?_append_right (by simpa using hge),List.getElem?_replicate] at hx
         rw[List.getElem?_append_right (by simpa using hge)] at hv
         split at hx
         . simp only[Zc] at hx
           subst hx
           simp only[Array.toList_replicate,List.getElem?_replicate] at hv
           split at hv
           . simp only[Zc] at hv
             exact hv.symm
           . cases hv
         . cases hx
     . have hx:(real.map (Wi.slot (dD s.ps xs 10000000).cs)++List.replicate (fn.ntmps-real.length) (.one .skip))[t]?=some x:=hx
       show(find (nK s.ps 10000000 (dD s.ps xs 10000000).objs) q).isSome=true
       rcases Nat.lt_or_ge t real.length with hlt|hge
       . rw[List.getElem?_append_left (by simpa using hlt),List.getElem?_map,Zm hlt] at hx
         simp only[Option.map_some,Zc] at hx
         subst hx
         exact hin' q (hin q ((hreal _ (List.getElem_mem hlt)).2 q hq))
       . rw[List.getElem?_append_right (by simpa using hge),List.getElem?_replicate] at hx
         split at hx
         . simp only[Zc] at hx
           subst hx;cases hq
         . cases hx
    have hck:aAR cx s.ps 10000000:=by
     refine aFT (all:=s.ps) s.ps 10000000 fun j k T hj=>?_
     obtain⟨⟨c,h1,h2,h3⟩,h4,h5,_⟩:=hcells j k T hj
     refine⟨h5,fun c' E' fr' hc'=>?_⟩
     have hc':w.heap[(φ (10000000+64*j)).b]?=some (.cells c' E' fr'):=hc'
     rw[h3] at hc'
     simp only[Zc,Go.Obj.cells.injEq] at hc'
     obtain⟨rfl,_⟩:=hc'
     show((φ (10000000+64*j)).pre++[c]++(φ (10000000+64*j)).post)[(φ (10000000+64*j)).pre.length]?=_
     rw[Zk,List.getElem?_append_right (Nat.le_refl _),Nat.sub_self,h2]
     rfl
    refine calls_of_wp hf hb ?_
    refine xF (cx:=cx) hE hm (fun h σ a w hI=>hnorm cx h σ a w rfl hI) c (hl c hb) hr ⟨rfl,φ,ψ,Av,hO,hS⟩ fun e σ' he a' w' hI'=>?_
    cases e with
    |exit id=>cases he
    |normal=>exact aGD (cx:=cx) hE hI' kn hck rfl he
    |ret=>exact aGD (cx:=cx) hE hI' kn hck rfl he
  . cases hr
end
end Go.Aw
