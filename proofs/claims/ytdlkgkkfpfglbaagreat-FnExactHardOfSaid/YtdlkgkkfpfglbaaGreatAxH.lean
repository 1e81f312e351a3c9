/-
 The head of a loop: the objects in order.
-/
import Derived.Test.YtdlkgkkfpfglbaaGreatAxG
namespace Go.Aw
section
variable {cx:Cx} {π:List (Nat×Nat)}
theorem tT{l:List (Nat×Nat)}(hn:(l.map (·.1)).Nodup){o q:Nat}:find l o=some q↔(o,q)∈l:=by
 constructor
 . intro h
   induction l with
   |nil=>cases h
   |cons p r ih=>
    obtain⟨i,b⟩:=p
    simp only[List.map_cons,List.nodup_cons] at hn
    simp only[find,Zi,Nat.beq_eq] at h
    by_cases h':i=o
    . rw[if_pos h'] at h;cases h;subst h';simp
    . rw[if_neg h'] at h;exact Zo _ (ih hn.2 h)
 . intro h
   exact mH hn h
theorem aFY{objs:List (Nat×Obj)}{ρ:List (Nat×Nat)}:(l:List (Nat×Nat))->{q:Nat}->{y:Obj}->(l.map (·.2)).Nodup->(find (rH objs ρ l) q=some y↔∃o x,(o,q)∈l/\find objs o=some x/\y=x.ren ρ)
 |[],q,y,hn=>by simp[rH,find]
 |(o,r)::l,q,y,hn=>by
  simp only[List.map_cons,List.nodup_cons] at hn
  have ih:=aFY (objs:=objs) (ρ:=ρ) l (q:=q) (y:=y) hn.2
  simp only[rH]
  cases hx:find objs o with
  |none=>
   simp only[]
   rw[ih]
   constructor
   . rintro⟨o',x,h1,h2,h3⟩;exact⟨o',x,Zo _ h1,h2,h3⟩
   . rintro⟨o',x,h1,h2,h3⟩
     rcases List.mem_cons.1 h1 with h1|h1
     . simp only[Prod.mk.injEq] at h1
       obtain⟨rfl,rfl⟩:=h1
       rw[hx] at h2;cases h2
     . exact⟨o',x,h1,h2,h3⟩
  |some x=>
   simp only[find,Zi,Nat.beq_eq]
   by_cases hrq:r=q
   . subst hrq
     rw[if_pos rfl]
     constructor
     . intro h
       simp only[Zc] at h
       exact⟨o,x,by simp,hx,h.symm⟩
     . rintro⟨o',x',h1,h2,h3⟩
       rcases List.mem_cons.1 h1 with h1|h1
       . simp only[Prod.mk.injEq,and_true] at h1
         subst h1
         rw[hx] at h2;cases h2;rw[h3]
       . exact absurd (List.mem_map.2 ⟨_,h1,rfl⟩) hn.1
   . rw[if_neg hrq,ih]
     constructor
     . rintro⟨o',x',h1,h2,h3⟩;exact⟨o',x',Zo _ h1,h2,h3⟩
     . rintro⟨o',x',h1,h2,h3⟩
       rcases List.mem_cons.1 h1 with h1|h1
       . simp only[Prod.mk.injEq] at h1
         exact absurd h1.2.symm hrq
       . exact⟨o',x',h1,h2,h3⟩
theorem aO7{σ:St}{a:Act}{w:World}(hI:vG cx σ a w)(hok:aL9 σ.objs π=true):vG cx ⟨σ.slots.map (SV.ren π),rH σ.objs π π⟩ a w:=by
 obtain⟨hd,φ,ψ,Av,hO,hS⟩:=hI
 unfold aL9 at hok
 simp only[Zb] at hok
 obtain⟨⟨n1,n2⟩,n3⟩:=hok
 have n1:=rA _ n1
 have n2:=rA _ n2
 rw[Zu] at n3
 have hπ:∀o q,(o,q)∈π->(find σ.objs o).isSome=true/\(o=q\/(20000000<=q/\q<40000000)):=by
  intro o q h
  have:=n3 _ h
  simp only[Zb,Bool.or_eq_true,Nat.beq_eq,Nat.ble_eq,Nat.blt_eq] at this
  exact this
 have hinv:(((π.map fun p=>(p.2,p.1)).map (·.1))).Nodup:=by
  have:(π.map fun p=>(p.2,p.1)).map (·.1)=π.map (·.2):=by simp[Function.comp_def]
  rw[this];exact n2
 have hfi:∀o q,(o,q)∈π->find (π.map fun p=>(p.2,p.1)) q=some o:=fun o q h=>mH hinv (List.mem_map.2 ⟨(o,q),h,rfl⟩)
 let φ':Nat->dJ:=fun q=>match find (π.map fun p=>(p.2,p.1)) q with|some o=>φ o|none=>φ q
 let ψ':Nat->Nat->Prop:=fun q=>match find (π.map fun p=>(p.2,p.1)) q with|some o=>ψ o|none=>ψ q
 have hφ':∀o q,(o,q)∈π->φ' q=φ o:=fun o q h=>by simp only[φ',hfi o q h]
 have hψ':∀o q,(o,q)∈π->ψ' q=ψ o:=fun o q h=>by simp only[ψ',hfi o q h]
 have hφ:∀o q,find π o=some q->φ' q=φ o:=fun o q h=>hφ' o q ((tT n1).1 h)
 have hfind:∀q y,find (rH σ.objs π π) q=some y↔∃o x,(o,q)∈π/\find σ.objs o=some x/\y=x.ren π:=fun q y=>aFY π n2
 have hsome:∀o q,(o,q)∈π->(find (rH σ.objs π π) q).isSome=true:=by
  intro o q h
  have h1:=(hπ o q h).1
  cases hx:find σ.objs o with
  |none=>rw[hx] at h1;cases h1
  |some x=>rw[(hfind q _).2 ⟨o,x,h,hx,rfl⟩];rfl
 have hal:∀o q,find π o=some q->bH (rH σ.objs π π) q->bH σ.objs o:=by
  rintro o q h ⟨t,e,xs,hx⟩
  obtain⟨o',x,h1,h2,h3⟩:=(hfind q _).1 hx
  have h4:=(tT n1).1 h
  have h5:=hfi o q h4
  rw[hfi o' q h1] at h5
  cases h5
  cases x with
  |arr t' e' xs'=>exact⟨t',e',xs',h2⟩
  |_=>cases h3
 have hblk:∀o q x b,(o,q)∈π->(kL φ' ψ' q (x.ren π) b↔kL φ ψ o x b):=by
  intro o q x b h
  cases x<;>simp only[Obj.ren,kL,hφ' o q h,hψ' o q h]
 refine⟨hd,φ',ψ',Av,⟨fun q y hy=>?_,fun q y q' y' hy hy' hne b hb hb'=>?_,fun q y hy b hb=>?_,fun q y hy r hr=>?_,fun b hb=>?_,hO.av0,hO.grow,hO.frame,fun o ho=>?_⟩,⟨?_,fun t s v hs hv=>?_,fun t s hs q hq=>?_⟩⟩
 . obtain⟨o,x,h1,h2,rfl⟩:=(hfind q y).1 hy
   have hr:=hO.reps o x h2
   cases x with
   |box T c=>
    obtain⟨g1,g2,mid,g3,g4,g5⟩:=hr
    simp only[Obj.ren,Obj.rep]
    rw[hφ' o q h1]
    exact⟨g1,aEG c g2,mid,yH hφ hal c g3,g4,g5⟩
   |arr t e xs=>
    simp only[Obj.ren,Obj.rep]
    rw[hφ' o q h1,hψ' o q h1]
    exact hr
   |rng t e m xs=>
    simp only[Obj.ren,Obj.rep]
    rw[hφ' o q h1,hψ' o q h1]
    exact hr
   |dead=>trivial
 . obtain⟨o,x,h1,h2,rfl⟩:=(hfind q y).1 hy
   obtain⟨o',x',h1',h2',rfl⟩:=(hfind q' y').1 hy'
   rw[hblk o q x b h1] at hb
   rw[hblk o' q' x' b h1'] at hb'
   refine hO.disj o x o' x' h2 h2' ?_ b hb hb'
   rintro rfl
   have e1:=(tT n1).2 h1
   rw[(tT n1).2 h1'] at e1
   simp only[Zc] at e1
   exact hne e1.symm
 . obtain⟨o,x,h1,h2,rfl⟩:=(hfind q y).1 hy
   rw[hblk o q x b h1] at hb
   exact hO.own o x h2 b hb
 . obtain⟨o,x,h1,h2,rfl⟩:=(hfind q y).1 hy
   cases x with
   |box T c=>
    obtain⟨o',h3⟩:=yT c r hr
    exact hsome o' r ((tT n1).1 h3)
   |arr t e xs=>cases hr
   |rng t e m xs=>cases hr
   |dead=>cases hr
 . obtain⟨e1,e2,e3⟩:=hO.av b hb
   refine⟨e1,fun q y hy hq=>?_,e3⟩
   obtain⟨o,x,h1,h2,rfl⟩:=(hfind q y).1 hy
   rw[hblk o q x b h1] at hq
   exact e2 o x h2 hq
 . obtain⟨p1,p2,p3⟩:=hO.pin o ho
   refine⟨?_,p2,p3⟩
   rw[<-p1]
   simp only[φ']
   split
   . rename_i o' ho'
     have hm:=(tT hinv).1 ho'
     obtain⟨p,hp,hpe⟩:=List.mem_map.1 hm
     simp only[Prod.mk.injEq] at hpe
     obtain⟨rfl,rfl⟩:=hpe
     rcases(hπ p.1 p.2 hp).2 with h|h
     . rw[h]
     . omega
   . rfl
 . show a.tmps.size=(σ.slots.map (SV.ren π)).length
   rw[List.length_map];exact hS.size
 . have hs:(σ.slots.map (SV.ren π))[t]?=some s:=hs
   rw[List.getElem?_map] at hs
   cases hx:σ.slots[t]? with
   |none=>rw[hx] at hs;cases hs
   |some x=>
    rw[hx] at hs
    simp only[Option.map_some,Zc] at hs
    subst hs
    have hr:=hS.slots t x v hx hv
    cases x with
    |one c=>exact aJC hφ hal c hr
    |tup c=>
     obtain⟨vs,h1,h2⟩:=hr
     exact⟨vs,h1,aHp hφ hal c h2⟩
 . have hs:(σ.slots.map (SV.ren π))[t]?=some s:=hs
   rw[List.getElem?_map] at hs
   cases hx:σ.slots[t]? with
   |none=>rw[hx] at hs;cases hs
   |some x=>
    rw[hx] at hs
    simp only[Option.map_some,Zc] at hs
    subst hs
    have:∃o,find π o=some q:=by cases x<;>exact yT _ q hq
    obtain⟨o,h3⟩:=this
    exact hsome o q ((tT n1).1 h3)
theorem aLO{σ:St}{a:Act}{w:World}(hI:vG cx σ a w):vG cx σ.order a w:=by
 unfold St.order
 simp only[Zi]
 split
 . rename_i h;exact aO7 hI h
 . exact hI
end
end Go.Aw
