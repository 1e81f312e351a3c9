/-
 The arguments of a call stand for what the contract speaks of.
-/
import Derived.Test.YtdlkgkkfpfglbaaGreatAwU
namespace Go.Aw
section
variable {cx:Cx} {φ:Nat->dJ} {ψ:Nat->Nat->Prop} {w w':World} {K Av Av':Nat->Prop} {objs:List (Nat×Obj)} {E:eI}
theorem aLA(hO:iH cx φ ψ Av objs w){n:Nat}{φ1:Nat->dJ}:(T:Ty)->(c:CT)->{x:T.D×List Nat}->{cs:List Value}->(y:T.D)->{G:Nat->Prop}->{ψ1:Nat->Nat->Prop}->(nN T c).ev (find objs)=some x->x.2.Nodup->
 c.onlyArr=true->(T.flatEl=true\/∀o∈x.2,K o)->c.cells cx.P φ w Av (bH objs) cs->cs.length=T.sz->qW w' T y cs G->(∀o∈x.2,keys objs o/\φ1 o=φ o)->
 ∃ψ2,Bk cx φ ψ objs w w' K Av' φ1 φ1 ψ1 ψ2 x.2 (yS T c y) n n G:=by
 have hdat:∀(T:Ty) (U:Ty) (z:U.D) (x:T.D×List Nat) (y:T.D) (G:Nat->Prop) (ψ1:Nat->Nat->Prop),(nN T (.dat U z)).ev (find objs)=some x->∃ψ2,Bk cx φ ψ objs w w' K Av' φ1 φ1 ψ1 ψ2 x.2 (yS T (.dat U z) y) n n G:=by
  intro T U z x y G ψ1 h
  have h':(bif U.flat then(pZ T U z).bind fun y=>M.ret (y,([]:List Nat)) else .fail).ev (find objs)=some x:=by cases T<;>exact h
  rw[Zi] at h'
  split at h'
  . obtain⟨_,_,h2⟩:=aG h'
    simp only[M.ev,Zc] at h2
    subst h2
    have:yS T (.dat U z) y=[]:=by cases T<;>rfl
    rw[this]
    exact⟨ψ1,.none⟩
  . cases h'
 intro T
 induction T with
 |sl t e _=>
  intro c x cs y G ψ1 h hn ho hf hc hl hy hk
  cases c with
  |arr o=>
   simp only[nN,M.ev] at h
   split at h
   . rename_i t' e' xs hfo
     obtain⟨z,h1,h2⟩:=aG h
     simp only[M.ev,Zc] at h2
     subst h2
     obtain⟨hT,_⟩:=iJ h1
     cases hT
     obtain⟨rfl,_⟩:=hc
     obtain⟨he,_⟩:=hO.reps o _ hfo
     obtain⟨_,hφ⟩:=hk o (by simp)
     refine⟨fup ψ1 o G,Nat.le_refl _,fun _ _=>rfl,fun q _ hq=>sU (by simpa using hq),fun p hp=>?_,fun q hq=>?_,by simp[yS],fun p hp=>?_,fun p hp q hq=>?_,fun p hp p' hp' hne=>?_⟩
     . simp only[yS,Zq] at hp;subst hp;exact .inl (by simp)
     . simpa [yS] using hq
     . simp only[yS,Zq] at hp;subst hp
       refine .arr t e y (by rw[hφ];exact he) (by rw[hφ,fH];exact hy) fun _=>⟨⟨_,_,_,hfo⟩,?_⟩
       rw[he];exact hf.imp id fun h=>h o (by simp)
     . simp only[yS,Zq] at hp;subst hp
       simpa [kL,fH] using hq
     . simp only[yS,Zq] at hp hp';subst hp;subst hp';exact absurd rfl hne
   . cases h
  |dat U z=>exact hdat _ U z x y G ψ1 h
  |_=>first|(cases h;done)|(cases ho;done)
 |pair a b iha ihb=>
  intro c x cs y G ψ1 h hn ho hf hc hl hy hk
  cases c with
  |pair c d=>
   have h':((nN a c).bind fun x=>(nN b d).bind fun y=>M.ret ((x.1,y.1),x.2++y.2)).ev (find objs)=some x:=h
   obtain⟨u,h1,h2⟩:=aG h'
   obtain⟨v,h3,h4⟩:=aG h2
   simp only[M.ev,Zc] at h4
   subst h4
   have hn':=hn
   simp only[List.nodup_append] at hn'
   simp only[CT.onlyArr,Zb] at ho
   simp only[Ty.flatEl,Zb] at hf
   have hf1:a.flatEl=true\/∀o∈u.2,K o:=hf.imp (·.1) fun h o ho=>h o (Zp.2 (.inl ho))
   have hf2:b.flatEl=true\/∀o∈v.2,K o:=hf.imp (·.2) fun h o ho=>h o (Zp.2 (.inr ho))
   obtain⟨c1,c2,rfl,hc1,hc2⟩:=hc
   obtain⟨d1,d2,F1,F2,hcd,hF,hd,hy1,hy2⟩:=hy
   obtain⟨F,k1,_⟩:=uJ hO a c h1 hn'.1 hc1
   obtain⟨e1,e2⟩:=List.append_inj hcd ((nL a k1).trans (nL a hy1).symm)
   subst e1;subst e2
   obtain⟨ψ2,b1⟩:=iha c y.1 (ψ1:=ψ1) h1 hn'.1 ho.1 hf1 hc1 (nL a hy1) hy1 (fun o ho=>hk o (Zp.2 (.inl ho)))
   obtain⟨ψ3,b2⟩:=ihb d y.2 (ψ1:=ψ2) h3 hn'.2.1 ho.2 hf2 hc2 (nL b hy2) hy2 (fun o ho=>hk o (Zp.2 (.inr ho)))
   exact⟨ψ3,b1.app b2 hn (fun o ho=>(hk o ho).1) (fun o h1 h2=>by omega) hd (fun q hq=>(hF q).2 (.inl hq)) (fun q hq=>(hF q).2 (.inr hq))⟩
  |dat U z=>exact hdat _ U z x y G ψ1 h
  |_=>first|(cases h;done)|(cases ho;done)
 |unit=>
  intro c x cs y G ψ1 h hn ho hf hc hl hy hk
  cases c with
  |unit=>
   simp only[nN,M.ev,Zc] at h
   subst h
   exact⟨ψ1,.none⟩
  |dat U z=>exact hdat _ U z x y G ψ1 h
  |_=>first|(cases h;done)|(cases ho;done)
 |int k=>
  intro c x cs y G ψ1 h hn ho hf hc hl hy hk
  cases c with
  |dat U z=>exact hdat _ U z x y G ψ1 h
  |_=>first|(cases h;done)|(cases ho;done)
 |bool=>
  intro c x cs y G ψ1 h hn ho hf hc hl hy hk
  cases c with
  |dat U z=>exact hdat _ U z x y G ψ1 h
  |_=>first|(cases h;done)|(cases ho;done)
 |str=>
  intro c x cs y G ψ1 h hn ho hf hc hl hy hk
  cases c with
  |dat U z=>exact hdat _ U z x y G ψ1 h
  |_=>first|(cases h;done)|(cases ho;done)
 |op=>
  intro c x cs y G ψ1 h hn ho hf hc hl hy hk
  exact hy.elim
theorem Bk.more{φ1 φ2:Nat->dJ}{ψ1 ψ2:Nat->Nat->Prop}{g:List Nat}{l:List (Nat×Obj)}{n n':Nat}{G G':Nat->Prop}(hG:∀q,G q->G' q)(h:Bk cx φ ψ objs w w' K Av' φ1 φ2 ψ1 ψ2 g l n n' G):
 Bk cx φ ψ objs w w' K Av' φ1 φ2 ψ1 ψ2 g l n n' G':=
 ⟨h.le,h.hφ,h.hψ,h.keys,h.all,h.nod,h.item,fun p hp q hq=>hG q (h.blk p hp q hq),h.dis⟩
theorem aMr(hO:iH cx φ ψ Av objs w)(T:Ty)(c:CT){x:aKy T}{cs:List Value}(h:(aMY T c).ev (find objs)=some x)(hn:x.ids.Nodup)(hc:c.cells cx.P φ w Av (bH objs) cs):
 ∃F,qW w T x.x cs F/\(∀q,F q->Of φ ψ objs x.ids q)/\aEF objs x.ids/\c.isSt=T.isSt/\
  ∀(w':World) (Av' K A:Nat->Prop) (n:Nat) (φ1:Nat->dJ) (ψ1:Nat->Nat->Prop) (y:T.D) (G:Nat->Prop),(∀o∈x.kl,K o)->(∀q,Of φ ψ objs x.ids q->A q->F q)->(∀q,G q->A q\/w.heap.size<=q)->
   (∀b,b<w.heap.size->¬A b->w'.heap[b]?=w.heap[b]?)->qW w' T y cs G->(∀o∈x.ids,keys objs o/\φ1 o=φ o)->
   ∃ψ2,Bk cx φ ψ objs w w' K Av' φ1 φ1 ψ1 ψ2 x.ids (x.back y) n n (fun q=>G q\/(Of φ ψ objs x.ids q/\¬A q)):=by
 have whole:(bif c.onlyArr then(nN T c).bind fun x=>M.ret (⟨x.1,x.2,yS T c,bif T.flatEl then[] else x.2⟩:aKy T) else .fail).ev (find objs)=some x->
  ∃F,qW w T x.x cs F/\(∀q,F q->Of φ ψ objs x.ids q)/\aEF objs x.ids/\c.isSt=T.isSt/\
  ∀(w':World) (Av' K A:Nat->Prop) (n:Nat) (φ1:Nat->dJ) (ψ1:Nat->Nat->Prop) (y:T.D) (G:Nat->Prop),(∀o∈x.kl,K o)->(∀q,Of φ ψ objs x.ids q->A q->F q)->(∀q,G q->A q\/w.heap.size<=q)->
   (∀b,b<w.heap.size->¬A b->w'.heap[b]?=w.heap[b]?)->qW w' T y cs G->(∀o∈x.ids,keys objs o/\φ1 o=φ o)->
   ∃ψ2,Bk cx φ ψ objs w w' K Av' φ1 φ1 ψ1 ψ2 x.ids (x.back y) n n (fun q=>G q\/(Of φ ψ objs x.ids q/\¬A q)):=by
  intro h
  rw[Zi] at h
  split at h
  . rename_i ho
    obtain⟨u,h1,h2⟩:=aG h
    simp only[M.ev,Zc] at h2
    subst h2
    obtain⟨F,g1,g2,g3,g4⟩:=uJ hO T c h1 hn hc
    refine⟨F,g1,g2,g3,g4,fun w' Av' K A n φ1 ψ1 y G k1 k2 k3 k4 k5 k6=>?_⟩
    have hf:T.flatEl=true\/∀o∈u.2,K o:=by
     cases hfe:T.flatEl with
     |true=>exact .inl rfl
     |false=>
      simp only[hfe,cond_false] at k1
      exact .inr k1
    obtain⟨ψ2,b⟩:=aLA (w':=w') (K:=K) (Av':=Av') (n:=n) (φ1:=φ1) (ψ1:=ψ1) hO T c y h1 hn ho hf hc (nL T g1) k5 k6
    exact⟨ψ2,b.more fun q hq=>.inl hq⟩
  . cases h
 cases c with
 |bor o p=>
  cases T with
  |sl t e=>
   have h':(bif e.flat then M.get o fun
    |some (.arr t' e' xs)=>(pZ (.sl t e) ((Ty.sl t' e').get p xs).T ((Ty.sl t' e').get p xs).x).bind fun x=>
     M.ret (⟨x,[o],fun y=>[(o,.arr t' e' ((Ty.sl t' e').set p xs ⟨.sl t e,y⟩))],[o]⟩:aKy (.sl t e))
    |_=>.fail
    else .fail).ev (find objs)=some x:=h
   rw[Zi] at h'
   split at h'
   . simp only[M.ev] at h'
     split at h'
     . rename_i t' e' xs ho
       obtain⟨u,h1,h2⟩:=aG h'
       simp only[M.ev,Zc] at h2
       subst h2
       obtain⟨v,rfl,hv1,hv2⟩:=hc
       obtain⟨t1,e1,b',off',hr,hcell⟩:=hv2 ⟨_,_,_,ho⟩
       obtain⟨he,hrd⟩:=hO.reps o _ ho
       obtain⟨y0,F',c1,E1,fr1,l1,l2,l3,l4,l5,l6,l7,l8,l9,l10⟩:=aEl he hrd hr
       rw[l1] at h1
       obtain⟨hT,hx⟩:=iJ h1
       cases hT
       have hx:u=y0:=by simpa using hx
       subst hx
       have hseg:fX c1.toList off' 1=[v]:=by
        simp only[blk,l2,Option.bind_some] at hcell
        exact seg_one hcell
       refine⟨F',?_,fun q hq=>⟨o,_,by simp,ho,l5 q hq⟩,fun o' ho'=>?_,rfl,fun w' Av' K A n φ1 ψ1 y G k1 k2 k3 k4 k5 k6=>?_⟩
       . have:=l4
         rw[show(Ty.sl t e).sz=1 from rfl,hseg] at this
         exact this
       . simp only[Zq] at ho';subst ho';exact⟨_,_,_,ho⟩
       . obtain⟨hk1,hφ⟩:=k6 o (by simp)
         have hin:∀q,ψ o q->q<w.heap.size:=fun q hq=>(hO.own o _ ho q hq).1
         have hnA:∀q,ψ o q->¬F' q->¬A q:=fun q hq hnf ha=>hnf (k2 q ⟨o,_,by simp,ho,hq⟩ ha)
         have hb':w'.heap[b']?=w.heap[b']?:=k4 b' (hin b' l7) (hnA b' l7 l6)
         have hput:=l10 w' y G c1 (fun c E fr hcb=>by
          rw[l2] at hcb;cases hcb
          exact⟨hb'.trans l2,rfl,fun _ _=>rfl⟩) (by rw[show(Ty.sl t e).sz=1 from rfl,hseg];exact k5) (fun q hq _ hnf=>k4 q (hin q hq) (hnA q hq hnf)) (fun q hq hqo=>by
           rcases k3 q hq with h3|h3
           . exact k2 q ⟨o,_,by simp,ho,hqo⟩ h3
           . have:=hin q hqo;omega)
         refine⟨fup ψ1 o (fun q=>(ψ o q/\¬F' q)\/G q),Nat.le_refl _,fun _ _=>rfl,fun q _ hq=>sU (by simpa using hq),fun p' hp=>?_,fun q hq=>?_,by simp,fun p' hp=>?_,fun p' hp q hq=>?_,fun p1 hp1 p2 hp2 hne=>?_⟩
         . simp only[Zq] at hp;subst hp;exact .inl (by simp)
         . simpa using hq
         . simp only[Zq] at hp;subst hp
           exact .arr t' e' _ (by rw[hφ];exact he) (by rw[hφ,fH];exact hput) fun _=>⟨⟨_,_,_,ho⟩,.inr (k1 o (by simp))⟩
         . simp only[Zq] at hp;subst hp
           simp only[kL,fH] at hq
           rcases hq with⟨q1,q2⟩|hq
           . exact .inr ⟨⟨o,_,by simp,ho,q1⟩,hnA q q1 q2⟩
           . exact .inl hq
         . simp only[Zq] at hp1 hp2;subst hp1;subst hp2;exact absurd rfl hne
     . cases h'
   . cases h'
  |_=>cases h
 |_=>exact whole h
where
 seg_one {l:List Value} {off:Nat} {v:Value} (h:l[off]?=some v):fX l off 1=[v]:=by
  unfold fX
  obtain⟨hlt,rfl⟩:=List.getElem?_eq_some_iff.1 h
  rw[Zn hlt];rfl
theorem zJ{P:Program}{f:FuncId}{fn:Func}{args:Array Value}(h:P.funcs[f]?=some fn)(hb:fn.body.isSome=true)(hg:(fn.name== "runtime.NumGoroutine")=false):(callFunc f args).run P w=.ok (.enter f args) w:=by
 have hn:fn.body.isNone=false:=by cases hfb:fn.body<;>simp_all
 simp only[callFunc,Sem.run_bind,run_program,Result.andThen_ok,h,hg,hn]
 simp
theorem aK0(hO:iH cx φ ψ Av objs w){T:Ty}{c:CT}{r:T.D×List Nat}{cs:List Value}(h:(aFF T c).ev (find objs)=some r)(hc:c.cells cx.P φ w Av (bH objs) cs):
 c.isSt=false/\∃b off l,cs=[.pointer (some ⟨b,off,none⟩)]/\(Av b\/Of φ ψ objs r.2 b)/\blk w b=some l/\off+T.sz<=l.length/\vK w (fun b=>Av b\/Of φ ψ objs r.2 b) T r.1 (fX l off T.sz):=by
 cases c with
 |dptr U x=>
  obtain⟨y,h1,h2⟩:=aG (m:=pZ T U x) (g:=fun y=>M.ret (y,([]:List Nat))) h
  simp only[M.ev,Zc] at h2
  subst h2
  obtain⟨rfl,rfl⟩:=iJ h1
  obtain⟨b,off,l,rfl,g1,g2,g3,g4⟩:=hc
  exact⟨rfl,b,off,l,rfl,.inl g1,g2,g3,lG (fun b hb=>.inl hb) (fun _ _=>rfl) _ g4⟩
 |bptr o p U=>
  simp only[aFF,Zi] at h
  split at h
  . rename_i hU
    have hU:U=T:=Ze hU
    subst hU
    simp only[M.ev] at h
    split at h
    . rename_i V c0 ho
      obtain⟨x,h1,h2⟩:=aG h
      simp only[M.ev,Zc] at h2
      subst h2
      obtain⟨hat,rfl⟩:=hc
      obtain⟨g1,g2,mid,g3,g4,g5⟩:=hO.reps o _ ho
      rw[g1] at hat
      obtain⟨j1,j2,j3,j4⟩:=vW p c0 hat g2 g3
      have hml:=cells_len g2 g3
      obtain⟨f1,f2⟩:=sQ hO U (c0.atp p) h1 j1
      have hseg:fX ((φ o).pre++mid++(φ o).post) ((φ o).pre.length+V.offp p) U.sz=fX mid (V.offp p) U.sz:=by
       unfold fX
       rw[<-List.drop_drop,Zk,List.drop_left,List.drop_append,List.take_append]
       rw[Zs]
       have:U.sz-(mid.length-V.offp p)=0:=by omega
       rw[this,List.take_zero,List.append_nil]
      refine⟨rfl,(φ o).b,(φ o).pre.length+V.offp p,(φ o).pre++mid++(φ o).post,by rw[g1],.inr ⟨o,_,by simp,ho,rfl⟩,by simp[blk,g4],by simp only[Zf];omega,?_⟩
      rw[hseg]
      exact lG (fun b hb=>hb.imp id fun⟨q,x,hq,h3,h4⟩=>⟨q,x,Zo _ hq,h3,h4⟩) (fun _ _=>rfl) _ f1
    . cases h
  . cases h
 |_=>cases h
theorem aBA{w1:World}{AvC Av1:Nat->Prop}(hO:iH cx φ ψ Av objs w)(hA:∀b,AvC b->Av1 b)(hw:∀b,AvC b->w1.heap[b]?=w.heap[b]?):(ps:List PM)->(c:CT)->{y:oC ps×List Nat}->{vs:List Value}->(aA7 ps c).ev (find objs)=some y->(∀b,Av b\/Of φ ψ objs y.2 b->AvC b)->c.caps cx.P φ w Av (bH objs) vs->
 ∃Fs,xQ cx.P w1 Av1 ps y.1 vs Fs/\∀F∈Fs,∀q,¬F q
 |[],c,y,vs,h,hu,hc=>by
  cases c with
  |unit=>
   simp only[aA7,M.ev,Zc] at h
   subst h
   exact⟨[],⟨hc,rfl⟩,(fun F hF=>by cases hF)⟩
  |_=>cases h
 |p::ps,c,y,vs,h,hu,hc=>by
  cases p with
  |peek T=>
   cases c with
   |pair c r=>
    have h':((aFF T c).bind fun x=>(aA7 ps r).bind fun y=>M.ret (((x.1,y.1),x.2++y.2):oC (.peek T::ps)×List Nat)).ev (find objs)=some y:=h
    obtain⟨x,h1,h2⟩:=aG h'
    obtain⟨z,h3,h4⟩:=aG h2
    simp only[M.ev,Zc] at h4
    subst h4
    obtain⟨v,u,rfl,⟨cs,hc1,rfl⟩,hc2⟩:=hc
    obtain⟨g0,b,off,l,rfl,g1,g2,g3,g4⟩:=aK0 hO h1 hc1
    have hin:∀b,Av b\/Of φ ψ objs x.2 b->AvC b:=fun b hb=>hu b (hb.imp id fun h=>kG.2 (.inl h))
    obtain⟨Fs,k1,k2⟩:=aBA hO hA hw ps r h3 (fun b hb=>hu b (hb.imp id fun h=>kG.2 (.inr h))) hc2
    refine⟨(fun _=>False)::Fs,⟨_,u,_,Fs,rfl,rfl,⟨⟨b,off,l,by rw[g0];rfl,hA b (hin b g1),(vV (hw b (hin b g1))).trans g2,g3,lG (fun b hb=>hA b (hin b hb)) (fun b hb=>hw b (hin b hb)) T g4⟩,fun _ h=>h⟩,k1⟩,fun F hF q=>?_⟩
    rcases List.mem_cons.1 hF with rfl|hF
    . exact fun h=>h
    . exact k2 F hF q
   |_=>cases h
  |val T m=>
   cases m with
   |f=>
    cases c with
    |pair c r=>
     have h':((oD T c).bind fun x=>(aA7 ps r).bind fun y=>M.ret (((x,y.1),c.ids++y.2):oC (.val T .f::ps)×List Nat)).ev (find objs)=some y:=h
     obtain⟨x,h1,h2⟩:=aG h'
     obtain⟨z,h3,h4⟩:=aG h2
     simp only[M.ev,Zc] at h4
     subst h4
     obtain⟨v,u,rfl,⟨cs,hc1,rfl⟩,hc2⟩:=hc
     obtain⟨g1,g2⟩:=sQ hO T c h1 hc1
     have hin:∀b,Av b\/Of φ ψ objs c.ids b->AvC b:=fun b hb=>hu b (hb.imp id fun h=>kG.2 (.inl h))
     obtain⟨Fs,k1,k2⟩:=aBA hO hA hw ps r h3 (fun b hb=>hu b (hb.imp id fun h=>kG.2 (.inr h))) hc2
     refine⟨(fun _=>False)::Fs,⟨_,u,_,Fs,rfl,rfl,⟨cs,by rw[g2],lG (fun b hb=>hA b (hin b hb)) (fun b hb=>hw b (hin b hb)) T g1,fun _ h=>h⟩,k1⟩,fun F hF q=>?_⟩
     rcases List.mem_cons.1 hF with rfl|hF
     . exact fun h=>h
     . exact k2 F hF q
    |_=>cases h
   |_=>cases h
  |_=>cases h
theorem aIb{Fs:List (Nat->Prop)}(h:∀F∈Fs,∀q,¬F q):oJ Fs:=by
 unfold oJ
 induction Fs with
 |nil=>exact List.Pairwise.nil
 |cons F Fs ih=>exact List.Pairwise.cons (fun G _ q hq=>(h F (by simp) q hq).elim) (ih fun G hG=>h G (by simp[hG]))
theorem aKK(hE:aS cx.P E)(hO:iH cx φ ψ Av objs w){AvC:Nat->Prop}(hC:∀b,AvC b->b<w.heap.size){f:FuncId}{s:FS}{A B:Ty}{caps:CT}{g:((A.D->Bool)×(A.D->B.D))×List Nat}{v:Value}(hs:E.fs f=some s)(h:(aJh A B s caps).ev (find objs)=some g)
 (hu:∀b,Av b\/Of φ ψ objs g.2 b->AvC b) (hv:(CT.clo f caps).val cx.P φ w Av (bH objs) v):aNz cx.P w AvC A B g.1.1 g.1.2 v:=by
 obtain⟨hsd,fn0,hf1,hf2,hf3⟩:=hE.fs f s hs
 obtain⟨cs,⟨vs,rfl,hcaps⟩,rfl⟩:=hv
 obtain⟨ps,rs,pre,fn⟩:=s
 cases ps with
 |nil=>cases h
 |cons p ps=>
 cases p with
 |val A' m=>
  cases m with
  |f=>
   cases rs with
   |nil=>cases h
   |cons r rs=>
    cases rs with
    |cons _ _=>cases h
    |nil=>
     obtain⟨B',md⟩:=r
     simp only[aJh] at h
     split at h
     . rename_i hc
       obtain⟨rfl,rfl,hB,hmp⟩:=hc
       obtain⟨y,h1,h2⟩:=aG h
       simp only[M.ev,Zc] at h2
       subst h2
       refine⟨f,vs.toArray,rfl,hB,fun args w=>zJ hf1 hf2 hf3,fun w1 Av1 x cs hw1 hA1 hx hp=>?_⟩
       have hlt:∀b,AvC b->b<w1.heap.size:=fun b hb=>by
        have h3:=hw1 b hb
        have h4:=hC b hb
        rw[Array.getElem?_eq_getElem h4] at h3
        rcases Nat.lt_or_ge b w1.heap.size with h5|h5
        . exact h5
        . rw[Array.getElem?_eq_none h5] at h3;cases h3
       obtain⟨Fs,k1,k2⟩:=aBA (w1:=w1) (AvC:=AvC) (Av1:=fun b=>AvC b\/Av1 b) hO (fun b hb=>.inl hb) hw1 ps caps h1 hu hcaps
       have hemp:∀F∈(fun _=>False)::Fs,∀q,¬F q:=by
        intro F hF q
        rcases List.mem_cons.1 hF with rfl|hF
        . exact fun h=>h
        . exact k2 F hF q
       have hsome:∀q,¬kE ((fun _=>False)::Fs) q:=fun q ⟨F,hF,hq⟩=>hemp F hF q hq
       have key:=hsd w1 (fun b=>AvC b\/Av1 b) (cS A'.isSt cs::vs) (x,y.1) ((fun _=>False)::Fs)
        ⟨_,vs,_,Fs,rfl,rfl,⟨cs,rfl,lG (fun b hb=>.inr hb) (fun _ _=>rfl) A' hx,fun _ h=>h⟩,k1⟩ (aIb hemp) (fun b hb=>⟨hb.elim (hlt b) (hA1 b),hsome b⟩) (fun q hq=>(hsome q hq).elim) hp
       have harr:(cS A'.isSt cs::vs).toArray=#[cS A'.isSt cs]++vs.toArray:=by simp
       rw[harr] at key
       refine Calls.mono key fun e w2 hpost=>?_
       obtain⟨rv,Gs,Hs,Av2,he,_,hres,_,_,_,hfr,hsz⟩:=hpost
       obtain⟨v,u,H,Ks,rfl,rfl,hone,hu,_⟩:=hres
       obtain⟨rc,rfl,hr⟩:=aCr hmp hone
       subst hu
       refine⟨rc,he,?_,fun b hb=>hfr b hb (hsome b),hsz⟩
       have hrd:=tB (Av':=qQ) md B' hB hr
       exact rdM_rdF md B' hB hrd
     . cases h
  |o=>cases rs with
   |nil=>cases h
   |cons r rs=>cases rs<;>cases h
  |pair m k=>cases rs with
   |nil=>cases h
   |cons r rs=>cases rs<;>cases h
  |np m=>cases rs with
   |nil=>cases h
   |cons r rs=>cases rs<;>cases h
 |«mut» T=>cases rs with
  |nil=>cases h
  |cons r rs=>cases rs<;>cases h
 |ref T m=>cases rs with
  |nil=>cases h
  |cons r rs=>cases rs<;>cases h
 |fn A' B'=>cases rs with
  |nil=>cases h
  |cons r rs=>cases rs<;>cases h
 |peek T=>cases rs with
  |nil=>cases h
  |cons r rs=>cases rs<;>cases h
 |cell k T=>cases rs with
  |nil=>cases h
  |cons r rs=>cases rs<;>cases h
 |nil t e=>cases rs with
  |nil=>cases h
  |cons r rs=>cases rs<;>cases h
where
 rdM_rdF {w:World}:(m:Md)->(T:Ty)->T.flat=true->{x:T.D}->{cs:List Value}->{F:Nat->Prop}->rdM w qQ m T x cs F->vK w qQ T x cs
  |.f,T,hf,x,cs,F,h=>h.1
  |.o,T,hf,x,cs,F,h=>jO T (fun q hq=>(sD T hf h q hq).elim) h
  |.np _,T,hf,x,cs,F,h=>h.2.1
  |.pair m n,T,hf,x,cs,F,h=>by
   cases T with
   |pair a b=>
    simp only[Ty.flat,Zb] at hf
    obtain⟨c1,c2,F1,F2,h1,h2,h3,h4,h5⟩:=h
    exact⟨c1,c2,h1,rdM_rdF m a hf.1 h4,rdM_rdF n b hf.2 h5⟩
   |_=>exact h.2.1
end
end Go.Aw
