/-
 Regions whose order is drawn.
-/
import Derived.Test.YtdlkgkkfpfglbaaGreatAwZ
namespace Go.Aw
def St.eqv(σ τ:St):Prop:=σ.slots=τ.slots/\∀o,find σ.objs o=find τ.objs o
theorem St.eqv.symm{σ τ:St}(h:σ.eqv τ):τ.eqv σ:=⟨h.1.symm,fun o=>(h.2 o).symm⟩
theorem St.eqv.trans{σ τ υ:St}(h:σ.eqv τ)(g:τ.eqv υ):σ.eqv υ:=⟨h.1.trans g.1,fun o=>(h.2 o).trans (g.2 o)⟩
theorem vG.eqv{cx:Cx}{σ τ:St}{a:Act}{w:World}(hI:vG cx σ a w)(h:σ.eqv τ):vG cx τ a w:=by
 obtain⟨hd,φ,ψ,Av,hO,hS⟩:=hI
 refine⟨hd,φ,ψ,Av,iH.congr (fun o=>(h.2 o).symm) hO,?_⟩
 obtain⟨s,os⟩:=τ
 obtain⟨h1,h2⟩:=h
 simp only[] at h1 h2
 subst h1
 exact kV.congr (fun o=>(h2 o).symm) hS
theorem aFO{l:List Operand}{f g:Operand->SV}(h:∀x∈l,f x=g x):l.map f=l.map g:=List.map_congr_left h
theorem yV{T:Ty}{f g:Operand->SV}:(l:List (Nat×Operand))->(c:CT)->(∀p∈l,f p.2=g p.2)->nY f T l c=nY g T l c
 |[],c,_=>rfl
 |(i,x)::l,c,h=>by
  have hx:=h (i,x) (by simp)
  simp only[] at hx
  simp only[nY,hx]
  cases g x with
  |tup c=>rfl
  |one v=>
   cases T.nth i with
   |none=>rfl
   |some U=>
    simp only[]
    rw[yV l (c.setFld i v) (fun p hp=>h p (by simp[hp]))]
theorem aAE{T:Ty}{f g:Operand->SV}:(l:List (Nat×Operand))->(k:Nat)->(∀p∈l,f p.2=g p.2)->qT f T l k=qT g T l k
 |[],k,_=>rfl
 |(i,x)::l,k,h=>by
  have hx:=h (i,x) (by simp)
  simp only[] at hx
  simp only[qT,hx,aAE l (k+1) (fun p hp=>h p (by simp[hp]))]
theorem aCx{f g:Operand->SV}{x:Option Operand}(h:∀y,x=some y->f y=g y):bnd f x=bnd g x:=by
 cases x with
 |none=>rfl
 |some y=>simp only[bnd,h y rfl]
theorem aKA{E:eI}{n:Nat}{o:Oper}{f g:Operand->SV}(h:∀x∈o.op.operands,f x=g x):opM E n o f=opM E n o g:=by
 unfold opM
 cases hop:o.op<;>rw[hop] at h<;>simp only[Op.operands] at h<;>try rfl
 case move x=>simp only[h x (by simp)]
 case assign x=>simp only[h x (by simp)]
 case pick c a b=>simp only[h c (by simp),h a (by simp),h b (by simp)]
 case unOp op t x=>simp only[h x (by simp)]
 case binOp op t x y u=>simp only[h x (by simp),h y (by simp)]
 case convert s d x=>simp only[h x (by simp)]
 case makeFunc fn first caps=>
  have:caps.toList.map f=caps.toList.map g:=aFO fun x hx=>h x (by simp[Array.mem_toList_iff.1 hx])
  cases fn<;>simp only[this]
 case box t x=>simp only[h x (by simp)]
 case build t ps=>
  have:∀T c,nY f T ps.toList c=nY g T ps.toList c:=fun T c=>yV _ _ fun p hp=>h p.2 (List.mem_toArray.2 (List.mem_map.2 ⟨p,hp,rfl⟩))
  simp only[this]
 case buildSlice t len ps=>
  have:∀T k,qT f T ps.toList k=qT g T ps.toList k:=fun T k=>aAE _ _ fun p hp=>h p.2 (List.mem_toArray.2 (List.mem_map.2 ⟨p,hp,rfl⟩))
  simp only[this]
 case load t a=>simp only[h a (by simp)]
 case store t a v=>simp only[h a (by simp),h v (by simp)]
 case nilCheck x=>simp only[h x (by simp)]
 case fieldAddr t x k=>simp only[h x (by simp)]
 case field t x k=>simp only[h x (by simp)]
 case indexAddr t x i=>simp only[h x (by simp),h i (by simp)]
 case index t x i=>simp only[h x (by simp),h i (by simp)]
 case slice t x lo hi mx=>
  simp only[h x (by simp),aCx (x:=lo) fun y hy=>h y (by subst hy;simp),aCx (x:=hi) fun y hy=>h y (by subst hy;simp),aCx (x:=mx) fun y hy=>h y (by subst hy;simp)]
 case extract x k=>simp only[h x (by simp)]
 case makeSlice t l c=>simp only[h l (by simp),h c (by simp)]
 case call c=>
  have hargs:∀x∈c.args.toList,f x=g x:=fun x hx=>h x (by simp[Call.operands,Array.mem_toList_iff.1 hx])
  have hm:=aFO hargs
  simp only[hm]
  cases hc:c.callee with
  |value y=>
   have hy:f y=g y:=h y (by simp[Call.operands,hc])
   cases y<;>simp only[hy]
  |invoke r m=>rfl
  |builtin b=>
   cases b<;>try rfl
   case append=>
    cases ha:c.args.toList with
    |nil=>rfl
    |cons x l=>
     rw[ha] at hargs
     cases l with
     |nil=>rfl
     |cons y l=>
      have e1:=hargs x (by simp)
      have e2:=hargs y (by simp)
      generalize c.argTypes.toList=ts
      cases l with
      |cons z l=>rfl
      |nil=>
       cases ts with
       |nil=>rfl
       |cons t ts=>
        cases ts with
        |nil=>rfl
        |cons u ts=>
         cases ts with
         |nil=>simp only[e1,e2]
         |cons v ts=>rfl
   case len=>
    cases ha:c.args.toList with
    |nil=>rfl
    |cons x l=>
     rw[ha] at hargs
     have e1:=hargs x (by simp)
     generalize c.argTypes.toList=ts
     cases l with
     |cons z l=>rfl
     |nil=>
      cases ts with
      |nil=>rfl
      |cons t ts=>simp only[e1]
   case clear=>
    cases ha:c.args.toList with
    |nil=>rfl
    |cons x l=>
     rw[ha] at hargs
     have e1:=hargs x (by simp)
     generalize c.argTypes.toList=ts
     cases l with
     |cons z l=>rfl
     |nil=>
      cases ts with
      |nil=>rfl
      |cons t ts=>
       cases ts with
       |nil=>simp only[e1]
       |cons u ts=>rfl
   case cap=>
    cases ha:c.args.toList with
    |nil=>rfl
    |cons x l=>
     rw[ha] at hargs
     have e1:=hargs x (by simp)
     generalize c.argTypes.toList=ts
     cases l with
     |cons z l=>rfl
     |nil=>
      cases ts with
      |nil=>rfl
      |cons t ts=>simp only[e1]
theorem aG2{d t:Nat}{s:SV}(h:d≠t):(l:List SV)->pX (tF l d s) t=pX l t
 |[]=>rfl
 |a::r=>by
  cases d with
  |zero=>cases t with
   |zero=>exact absurd rfl h
   |succ t=>rfl
  |succ d=>cases t with
   |zero=>rfl
   |succ t=>exact aG2 (d:=d) (t:=t) (fun e=>h (by rw[e])) r
termination_by l=>l.length
theorem aLJ{ops:List Oper}{o:Oper}{t:Nat}(h:Operand.tmp t∈o.op.operands):t∈aAf ops o:=by
 unfold aAf
 refine List.mem_append_left _ (List.mem_filterMap.2 ⟨.tmp t,by simpa using h,rfl⟩)
theorem rM{ops:List Oper}{o:Oper}{σ τ:St}(h:∀t∈aAf ops o,pX τ.slots t=pX σ.slots t):rQ ops τ o=rQ ops σ o/\∀x want d,rQ ops σ o=some (some (x,want,d))->pX τ.slots d=pX σ.slots d:=by
 unfold rQ aAf at *
 cases hg:o.guard with
 |none=>exact⟨rfl,fun _ _ _ h=>by cases h⟩
 |some g=>
  obtain⟨g,want⟩:=g
  rw[hg] at h
  simp only[] at h ⊢
  cases hp:ops[g]? with
  |none=>exact⟨rfl,fun _ _ _ h=>by cases h⟩
  |some p=>
   rw[hp] at h
   simp only[] at h ⊢
   cases hd:p.dst with
   |none=>exact⟨rfl,fun _ _ _ h=>by cases h⟩
   |some d=>
    rw[hd] at h
    have hh:=h d (by simp)
    simp only[]
    rw[hh]
    refine⟨rfl,fun x want' d' h'=>?_⟩
    split at h'
    . simp only[Zc,Prod.mk.injEq] at h'
      obtain⟨_,_,rfl⟩:=h';exact hh
    . simp only[Zc,Prod.mk.injEq] at h'
      obtain⟨_,_,rfl⟩:=h';exact hh
    . cases h'
section
variable {E:eI} {ops:List Oper} {base:Nat}
theorem wE{i:Nat}{σ σ1:St}{L:iT}(h:sR E ops base i σ=some (σ1,L)):
 ∃o e,ops[i]?=some o/\σ1=σ.apply o.dst e/\L.i=i/\L.upd=e.upd.map (·.1)/\L.kill=e.kill.isSome/\
  ∀τ:St,(∀t∈aAf ops o,pX τ.slots t=pX σ.slots t)->(∀q∈L.reads,find τ.objs q=find σ.objs q)->sR E ops base i τ=some (τ.apply o.dst e,L):=by
 unfold sR at h
 cases ho:ops[i]? with
 |none=>rw[ho] at h;cases h
 |some o=>
  rw[ho] at h
  simp only[] at h
  have hat:∀τ:St,(∀t∈aAf ops o,pX τ.slots t=pX σ.slots t)->opM E (base+i*32) o τ.at=opM E (base+i*32) o σ.at:=by
   intro τ hτ
   refine aKA fun x hx=>?_
   cases x with
   |tmp t=>exact hτ t (aLJ hx)
   |_=>rfl
  have hone:(match(opM E (base+i*32) o σ.at).val (find σ.objs) [] with
   |some (e,l)=>some (σ.apply o.dst e,(⟨i,l,e.upd.map (·.1),e.kill.isSome⟩:iT))
   |none=>none)=some (σ1,L)->∃e,σ1=σ.apply o.dst e/\L.i=i/\L.upd=e.upd.map (·.1)/\L.kill=e.kill.isSome/\
    ∀τ:St,(∀t∈aAf ops o,pX τ.slots t=pX σ.slots t)->(∀q∈L.reads,find τ.objs q=find σ.objs q)->
     (match(opM E (base+i*32) o τ.at).val (find τ.objs) [] with
     |some (e,l)=>some (τ.apply o.dst e,(⟨i,l,e.upd.map (·.1),e.kill.isSome⟩:iT))
     |none=>none)=some (τ.apply o.dst e,L):=by
   intro h
   split at h
   . rename_i e l hv
     simp only[Zc,Prod.mk.injEq] at h
     obtain⟨rfl,rfl⟩:=h
     refine⟨e,rfl,rfl,rfl,rfl,fun τ h1 h2=>?_⟩
     rw[hat τ h1,yG _ hv (fun q hq=>h2 q hq)]
   . cases h
  have hno:some (σ.apply o.dst ⟨.one .skip,[],none⟩,(⟨i,[],[],false⟩:iT))=some (σ1,L)->σ1=σ.apply o.dst ⟨.one .skip,[],none⟩/\L=⟨i,[],[],false⟩:=by
   intro h
   simp only[Zc,Prod.mk.injEq] at h
   exact⟨h.1.symm,h.2.symm⟩
  cases hg:rQ ops σ o with
  |none=>rw[hg] at h;cases h
  |some g=>
   rw[hg] at h
   cases g with
   |none=>
    obtain⟨e,h1,h2,h3,h4,h5⟩:=hone h
    refine⟨o,e,rfl,h1,h2,h3,h4,fun τ t1 t2=>?_⟩
    unfold sR
    rw[ho]
    simp only[(rM t1).1,hg]
    exact h5 τ t1 t2
   |some g=>
    obtain⟨x,want,d⟩:=g
    simp only[] at h
    have hnoτ:σ1=σ.apply o.dst ⟨.one .skip,[],none⟩/\L=⟨i,[],[],false⟩->(aAJ (pX σ.slots d)=true\/(x==want)=false)->
     ∃o' e,some o=some o'/\σ1=σ.apply o'.dst e/\L.i=i/\L.upd=e.upd.map (·.1)/\L.kill=e.kill.isSome/\
     ∀τ:St,(∀t∈aAf ops o',pX τ.slots t=pX σ.slots t)->(∀q∈L.reads,find τ.objs q=find σ.objs q)->sR E ops base i τ=some (τ.apply o'.dst e,L):=by
     rintro⟨rfl,rfl⟩ hc
     refine⟨o,⟨.one .skip,[],none⟩,rfl,rfl,rfl,rfl,rfl,fun τ t1 t2=>?_⟩
     unfold sR
     rw[ho]
     simp only[(rM t1).1,hg,(rM t1).2 x want d hg]
     rcases hc with hc|hc
     . rw[hc];rfl
     . rw[hc];simp only[cond_false];cases aAJ (pX σ.slots d)<;>rfl
    cases hs:aAJ (pX σ.slots d) with
    |true=>
     rw[hs] at h
     exact hnoτ (hno h) (.inl hs)
    |false=>
     rw[hs] at h
     simp only[cond_false] at h
     cases hx:(x==want) with
     |false=>
      rw[hx] at h
      exact hnoτ (hno h) (.inr hx)
     |true=>
      rw[hx] at h
      simp only[cond_true] at h
      obtain⟨e,h1,h2,h3,h4,h5⟩:=hone h
      refine⟨o,e,rfl,h1,h2,h3,h4,fun τ t1 t2=>?_⟩
      unfold sR
      rw[ho]
      simp only[(rM t1).1,hg,(rM t1).2 x want d hg,hs,hx,cond_true,cond_false]
      exact h5 τ t1 t2
theorem tW:(u l:List (Nat×Obj))->{o:Nat}->o∉u.map (·.1)->find (fE l u) o=find l o
 |[],l,o,h=>rfl
 |(i,x)::u,l,o,h=>by
  simp only[List.map_cons,List.mem_cons,not_or] at h
  simp only[fE]
  rw[tW u _ h.2,aAF,if_neg (fun e=>h.1 e.symm)]
theorem zF:(u l l':List (Nat×Obj))->{o:Nat}->(o∈u.map (·.1)\/find l o=find l' o)->find (fE l u) o=find (fE l' u) o
 |[],l,l',o,h=>h.elim (fun h=>by cases h) id
 |(i,x)::u,l,l',o,h=>by
  simp only[fE]
  refine zF u _ _ ?_
  rw[aAF,aAF]
  by_cases hio:i=o
  . exact .inr (by rw[if_pos hio,if_pos hio])
  . rcases h with h|h
    . simp only[List.map_cons,List.mem_cons] at h
      exact .inl (h.resolve_left (fun e=>hio e.symm))
    . exact .inr (by rw[if_neg hio,if_neg hio];exact h)
theorem aKH{σ τ:St}(h:σ.eqv τ)(dst:Option Tmp)(e:uM):(σ.apply dst e).eqv (τ.apply dst e):=by
 obtain⟨h1,h2⟩:=h
 unfold St.apply
 rw[h1]
 cases e.kill with
 |none=>exact⟨rfl,fun o=>zF _ _ _ (.inr (h2 o))⟩
 |some q=>
  refine⟨rfl,fun o=>?_⟩
  simp only[lJ]
  rw[zF e.upd σ.objs τ.objs (.inr (h2 o))]
theorem aMc{i:Nat}{σ τ σ1:St}{L:iT}(h:sR E ops base i σ=some (σ1,L))(hq:σ.eqv τ):∃τ1,sR E ops base i τ=some (τ1,L)/\σ1.eqv τ1:=by
 obtain⟨o,e,h1,rfl,_,_,_,h2⟩:=wE h
 exact⟨_,h2 τ (fun t _=>by rw[hq.1]) (fun q _=>(hq.2 q).symm),aKH hq _ _⟩
def runs(E:eI)(ops:List Oper)(base:Nat):List Nat->St->Option (St×List iT)
 |[],σ=>some (σ,[])
 |i::r,σ=>match sR E ops base i σ with
  |some (σ1,l)=>match runs E ops base r σ1 with
   |some (σ2,ls)=>some (σ2,l::ls)
   |none=>none
  |none=>none
theorem sF{i:Nat}{r:List Nat}{σ σ2:St}{ls:List iT}:runs E ops base (i::r) σ=some (σ2,ls)↔∃σ1 l ls',sR E ops base i σ=some (σ1,l)/\runs E ops base r σ1=some (σ2,ls')/\ls=l::ls':=by
 simp only[runs]
 constructor
 . intro h
   split at h
   . rename_i σ1 l h1
     split at h
     . rename_i σ2' ls' h2
       simp only[Zc,Prod.mk.injEq] at h
       obtain⟨rfl,rfl⟩:=h
       exact⟨σ1,l,ls',h1,h2,rfl⟩
     . cases h
   . cases h
 . rintro⟨σ1,l,ls',h1,h2,rfl⟩
   rw[h1];simp only[h2]
theorem aFI:(l:List Nat)->{σ σ':St}->{L L':List iT}->aAc E ops base l σ L=some (σ',L')->∃ls,runs E ops base l σ=some (σ',ls)/\∀x,x∈L'↔(x∈ls\/x∈L)
 |[],σ,σ',L,L',h=>by
  simp only[aAc,Zc,Prod.mk.injEq] at h
  obtain⟨rfl,rfl⟩:=h
  exact⟨[],rfl,fun x=>by simp⟩
 |i::r,σ,σ',L,L',h=>by
  simp only[aAc] at h
  split at h
  . rename_i σ1 l hs
    obtain⟨ls,h1,h2⟩:=aFI r h
    refine⟨l::ls,sF.2 ⟨σ1,l,ls,hs,h1,rfl⟩,fun x=>?_⟩
    rw[h2 x,List.mem_cons,List.mem_cons]
    constructor
    . rintro(h|h|h)
      . exact .inl (.inr h)
      . exact .inl (.inl h)
      . exact .inr h
    . rintro((h|h)|h)
      . exact .inr (.inl h)
      . exact .inl h
      . exact .inr (.inr h)
  . cases h
theorem aHo:(r:List Nat)->{σ τ σ':St}->{ls:List iT}->runs E ops base r σ=some (σ',ls)->σ.eqv τ->∃τ',runs E ops base r τ=some (τ',ls)/\σ'.eqv τ'
 |[],σ,τ,σ',ls,h,hq=>by
  simp only[runs,Zc,Prod.mk.injEq] at h
  obtain⟨rfl,rfl⟩:=h
  exact⟨τ,rfl,hq⟩
 |i::r,σ,τ,σ',ls,h,hq=>by
  obtain⟨σ1,l,ls',h1,h2,rfl⟩:=sF.1 h
  obtain⟨τ1,g1,g2⟩:=aMc h1 hq
  obtain⟨τ',g3,g4⟩:=aHo r h2 g2
  exact⟨τ',sF.2 ⟨τ1,l,ls',g1,g3,rfl⟩,g4⟩
def Ap(ops:List Oper)(x y:iT):Prop:=∃p q,ops[x.i]?=some p/\ops[y.i]?=some q/\aGa ops p q=true/\aEj x y=true
theorem aJZ{n:Nat}:(l:List Nat)->aBt n l=true↔n∈l
 |[]=>by simp[aBt]
 |m::r=>by
  simp only[aBt,Bool.or_eq_true,Nat.beq_eq,List.mem_cons,aJZ r]
  exact⟨fun h=>h.imp Eq.symm id,fun h=>h.imp Eq.symm id⟩
theorem aAo{a b:List Nat}(h:(!aCi a b)=true):∀n∈a,n∉b:=by
 intro n hn hb
 have:aCi a b=true:=List.any_eq_true.2 ⟨n,hn,(aJZ b).2 hb⟩
 rw[this] at h;cases h
theorem aG1{d e:Nat}{s t:SV}(h:d≠e):(l:List SV)->tF (tF l d s) e t=tF (tF l e t) d s
 |[]=>rfl
 |a::r=>by
  cases d with
  |zero=>cases e with
   |zero=>exact absurd rfl h
   |succ e=>rfl
  |succ d=>cases e with
   |zero=>rfl
   |succ e=>simp only[tF,aG1 (d:=d) (e:=e) (fun h'=>h (by rw[h'])) r]
termination_by l=>l.length
theorem aMu{i j:Nat}{σ σ1 σ2:St}{li lj:iT}(h1:sR E ops base i σ=some (σ1,li))(h2:sR E ops base j σ1=some (σ2,lj))(ha:Ap ops li lj):
 ∃τ1 τ2,sR E ops base j σ=some (τ1,lj)/\sR E ops base i τ1=some (τ2,li)/\σ2.eqv τ2:=by
 obtain⟨o,e,a1,rfl,a3,a4,a5,a6⟩:=wE h1
 obtain⟨p,f,b1,rfl,b3,b4,b5,b6⟩:=wE h2
 obtain⟨o',p',c1,c2,c3,c4⟩:=ha
 rw[a3,a1] at c1;cases c1
 rw[b3,b1] at c2;cases c2
 simp only[aGa,Zb] at c3
 simp only[aEj,Zb,Bool.not_eq_true'] at c4
 obtain⟨⟨d1,d2⟩,d3⟩:=c3
 obtain⟨⟨⟨k1,k2⟩,u1⟩,u2⟩:=c4
 have d1:=aAo d1
 have d2:=aAo d2
 have d3:=aAo d3
 have u1:=aAo (by rw[u1];rfl:(!aCi li.upd (lj.reads++lj.upd))=true)
 have u2:=aAo (by rw[u2];rfl:(!aCi lj.upd li.reads)=true)
 have ke:e.kill=none:=by rw[a5] at k1;cases h:e.kill with
  |none=>rfl
  |some x=>rw[h] at k1;cases k1
 have kf:f.kill=none:=by rw[b5] at k2;cases h:f.kill with
  |none=>rfl
  |some x=>rw[h] at k2;cases k2
 have sl:∀(τ:St) (e:uM) (dst:Option Tmp),e.kill=none->(τ.apply dst e)=⟨(match dst with|some d=>tF τ.slots d e.val|none=>τ.slots),fE τ.objs e.upd⟩:=by
  intro τ e dst h
  cases dst<;>simp only[St.apply,h]
 have lk:∀(τ:St) (e:uM) (dst:Option Tmp) (q:Oper),e.kill=none->(∀n∈dst.toList,n∉aAf ops q)->∀t∈aAf ops q,pX (τ.apply dst e).slots t=pX τ.slots t:=by
  intro τ e dst q hk hn t ht
  rw[sl τ e dst hk]
  cases dst with
  |none=>rfl
  |some d=>exact aG2 (fun h=>hn d (by simp) (by rw[h];exact ht)) _
 have hj:=b6 σ (fun t ht=>(lk σ e o.dst p ke d1 t ht).symm) (fun q hq=>by
  rw[sl σ e o.dst ke]
  exact(tW _ _ (fun hm=>u1 q (by rw[a4];exact hm) (Zp.2 (.inl hq)))).symm)
 have hi:=a6 (σ.apply p.dst f) (fun t ht=>lk σ f p.dst o kf d2 t ht) (fun q hq=>by
  rw[sl σ f p.dst kf]
  exact tW _ _ (fun hm=>u2 q (by rw[b4];exact hm) hq))
 refine⟨_,_,hj,hi,?_,fun q=>?_⟩
 . rw[sl _ f p.dst kf,sl _ e o.dst ke,sl _ e o.dst ke,sl _ f p.dst kf]
   simp only[]
   cases hod:o.dst with
   |none=>rfl
   |some d=>
    cases hpd:p.dst with
    |none=>rfl
    |some d'=>
     refine aG1 (fun h=>?_) _
     rw[hod,hpd] at d3
     exact d3 d (by simp) (by simp[h])
 . rw[sl _ f p.dst kf,sl _ e o.dst ke,sl _ e o.dst ke,sl _ f p.dst kf]
   simp only[]
   by_cases hq1:q∈e.upd.map (·.1)
   . have hq2:q∉f.upd.map (·.1):=fun hm=>u1 q (by rw[a4];exact hq1) (Zp.2 (.inr (by rw[b4];exact hm)))
     rw[tW f.upd _ hq2]
     exact zF _ _ _ (.inl hq1)
   . rw[tW e.upd (fE σ.objs f.upd) hq1]
     exact zF _ _ _ (.inr (tW _ _ hq1))
theorem aEH{i:Nat}{B:List Nat}:(A:List Nat)->{σ σ':St}->{ls:List iT}->runs E ops base (A++i::B) σ=some (σ',ls)->(∀x∈ls,∀y∈ls,x.i∈A->y.i=i->Ap ops x y)->
 ∃σ'' ls'',runs E ops base (i::(A++B)) σ=some (σ'',ls'')/\σ'.eqv σ''/\∀x,x∈ls''↔x∈ls
 |[],σ,σ',ls,h,_=>⟨σ',ls,h,⟨rfl,fun _=>rfl⟩,fun _=>Iff.rfl⟩
 |a::A,σ,σ',ls,h,hap=>by
  obtain⟨σ1,la,ls1,h1,h2,rfl⟩:=sF.1 h
  obtain⟨σ'',ls'',g1,g2,g3⟩:=aEH A h2 (fun x hx y hy hxA hyi=>hap x (by simp[hx]) y (by simp[hy]) (by simp[hxA]) hyi)
  obtain⟨σ2,li,ls2,k1,k2,rfl⟩:=sF.1 g1
  obtain⟨_,_,_,_,hia,_⟩:=wE h1
  obtain⟨_,_,_,_,hii,_⟩:=wE k1
  have hli:li∈ls1:=(g3 li).1 (by simp)
  obtain⟨τ1,τ2,m1,m2,m3⟩:=aMu h1 k1 (hap la (by simp) li (by simp[hli]) (by simp[hia]) hii)
  obtain⟨σ3,n1,n2⟩:=aHo _ k2 m3
  refine⟨σ3,li::la::ls2,sF.2 ⟨τ1,li,la::ls2,m1,sF.2 ⟨τ2,la,ls2,m2,n1,rfl⟩,rfl⟩,g2.trans n2,fun x=>?_⟩
  simp only[List.mem_cons,<-g3 x]
  constructor
  . rintro(h|h|h)
    . exact .inr (.inl h)
    . exact .inl h
    . exact .inr (.inr h)
  . rintro(h|h|h)
    . exact .inr (.inl h)
    . exact .inl h
    . exact .inr (.inr h)
end
end Go.Aw
