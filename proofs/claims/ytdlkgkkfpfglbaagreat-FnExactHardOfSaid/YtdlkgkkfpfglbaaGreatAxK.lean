/-
 The head of a loop keeps what is told.
-/
import Derived.Test.YtdlkgkkfpfglbaaGreatAxJ
namespace Go.Aw
theorem aIy{α:Type}{l r:List (Nat×α)}{o:Nat}:find (l++r) o=(find l o).or (find r o):=by
 induction l with
 |nil=>rfl
 |cons p l ih=>
  simp only[List.cons_append,find,Zi]
  split
  . rfl
  . exact ih
section
variable {cx:Cx}
theorem aNa{σ:St}{a:Act}{w:World}(hI:vG cx σ a w)(own:List (Nat×TypeId×Ty))(n:Nat):vG cx (σ.fill own n) a w:=by
 unfold St.fill
 obtain⟨e1,s2,s3⟩:=tD own σ.slots n 0
 generalize hfs:sA n own σ.slots 0=fs at e1 s2 s3 ⊢
 obtain⟨s,l,n'⟩:=fs
 obtain⟨e2,o2,o3⟩:=aAu σ.objs n'
 simp only[] at e1 s2 s3 ⊢
 generalize hfo:kU n' σ.objs=fo at e2 o2 o3 ⊢
 obtain⟨os,l',n''⟩:=fo
 simp only[] at e2 o2 o3 ⊢
 rw[Zi]
 split
 . rename_i hc
   simp only[Zb,Nat.ble_eq] at hc
   obtain⟨⟨c1,c2⟩,c3⟩:=hc
   have e:=e1.app e2
   generalize hL:l++l'=L at *
   have hl1:∀p∈l,p∈L:=fun p hp=>by rw[<-hL];exact Zp.2 (.inl hp)
   have hl2:∀p∈l',p∈L:=fun p hp=>by rw[<-hL];exact Zp.2 (.inr hp)
   have hnew:∀p∈L,find σ.objs p.1=none:=by
    intro p hp
    rw[Zu] at c3
    have:=c3 p hp
    cases hx:find σ.objs p.1 with
    |none=>rfl
    |some x=>simp only[hx] at this;cases this
   have hold:∀o x,find σ.objs o=some x->find L o=none:=by
    intro o x ho
    refine aCp fun hm=>?_
    obtain⟨p,hp,rfl⟩:=List.mem_map.1 hm
    rw[hnew p hp] at ho;cases ho
   obtain⟨hd,φ,ψ,Av,hO,hS⟩:=hI
   let φ':Nat->dJ:=fun k=>match find L k with|some (.arr _ e _)=>rP (φ k) (.slice none 0 0) e|_=>φ k
   let ψ':Nat->Nat->Prop:=fun k=>match find L k with|some _=>qQ|none=>ψ k
   have hφ:∀o,find L o=none->φ' o=φ o:=fun o h=>by simp only[φ',h]
   have hψ:∀o,find L o=none->ψ' o=ψ o:=fun o h=>by simp only[ψ',h]
   have hkφ:∀o,(find σ.objs o).isSome=true->φ' o=φ o:=fun o h=>by
    cases hx:find σ.objs o with
    |none=>rw[hx] at h;cases h
    |some x=>exact hφ o (hold o x hx)
   have hnil:∀p∈L,(φ' p.1).hdr=.slice none 0 0/\∀t e xs,p.2=Obj.arr t e xs->(φ' p.1).e=e:=by
    intro p hp
    obtain⟨t,e',h⟩:=e.arr p hp
    have hf:=mH e.nod (o:=p.1) (a:=p.2) hp
    rw[h] at hf
    simp only[φ',hf,rP]
    refine⟨trivial,fun t2 e2 xs hx=>?_⟩
    rw[h] at hx
    cases hx;rfl
   have hcase:∀o y,find (os++L) o=some y->(∃x,find σ.objs o=some x/\find L o=none/\aA2 L x y)\/(find σ.objs o=none/\∃t e',y=.arr t e' []/\(o,y)∈L):=by
    intro o y hy
    rw[aIy] at hy
    cases hx:find σ.objs o with
    |some x=>
     obtain⟨y',g1,g2⟩:=o3 o x hx
     rw[g1] at hy
     simp only[Option.some_or,Zc] at hy
     subst hy
     exact .inl ⟨x,rfl,hold o x hx,g2.more hl2⟩
    |none=>
     rw[o2 o hx] at hy
     simp only[Option.none_or] at hy
     have hm:=iW hy
     obtain⟨t,e',h⟩:=e.arr _ hm
     exact .inr ⟨rfl,t,e',h,hm⟩
   have hsome:∀o,(find σ.objs o).isSome=true\/o∈L.map (·.1)->(find (os++L) o).isSome=true:=by
    intro o ho
    rw[aIy]
    rcases ho with ho|ho
    . cases hx:find σ.objs o with
      |none=>rw[hx] at ho;cases ho
      |some x=>obtain⟨y,g1,_⟩:=o3 o x hx;rw[g1];rfl
    . obtain⟨p,hp,rfl⟩:=List.mem_map.1 ho
      rw[o2 _ (hnew p hp),mH e.nod (o:=p.1) (a:=p.2) hp];rfl
   have hal:∀o,(find σ.objs o).isSome=true->bH (os++L) o->bH σ.objs o:=by
    rintro o ho ⟨t,e',xs,hx⟩
    rcases hcase o _ hx with⟨x,g1,_,g3⟩|⟨g1,_⟩
    . cases g3 with
      |same x h=>exact⟨t,e',xs,g1⟩
    . rw[g1] at ho;cases ho
   have hblk:∀o x y b,find L o=none->aA2 L x y->(kL φ' ψ' o y b↔kL φ ψ o x b):=by
    intro o x y b hn hfl
    cases hfl with
    |same x h=>cases x<;>simp only[kL,hφ o hn,hψ o hn]
    |box T c m h=>simp only[kL,hφ o hn]
   have hnb:∀o t e' b,(o,Obj.arr t e' [])∈L->¬kL φ' ψ' o (.arr t e' []) b:=by
    intro o t e' b hm hb
    have hf:=mH e.nod hm
    simp only[kL,ψ',hf] at hb
    exact hb
   refine⟨hd,φ',ψ',Av,⟨fun o y hy=>?_,fun o y o' y' hy hy' hne b hb hb'=>?_,fun o y hy b hb=>?_,fun o y hy q hq=>?_,fun b hb=>?_,hO.av0,hO.grow,hO.frame,fun o ho=>?_⟩,⟨?_,fun t x v hx hv=>?_,fun t x hx q hq=>?_⟩⟩
   . rcases hcase o y hy with⟨x,g1,g2,g3⟩|⟨g1,t,e',rfl,hm⟩
     . have hr:=hO.reps o x g1
       cases g3 with
       |same _ h=>
        cases y with
        |box T c=>exact absurd rfl (h T c)
        |arr t e' xs=>simp only[Obj.rep];rw[hφ o g2,hψ o g2];exact hr
        |rng t e' m xs=>simp only[Obj.rep];rw[hφ o g2,hψ o g2];exact hr
        |dead=>trivial
       |box T c m h=>
        obtain⟨k1,k2,mid,k3,k4,k5⟩:=hr
        obtain⟨_,f2,_,f4,f5⟩:=aBD (P:=cx.P) (φ:=φ) (φ':=φ') (w:=w) (Av:=Av) (al:=bH σ.objs) (al':=bH (os++L)) c T m
        have pk:=aB3 (iR m c T).1
        simp only[Obj.rep]
        rw[hφ o g2]
        exact⟨k1,pk.fits T (f2 k2),mid,pk.cells _ _ _ _ _ _ (f5 mid k3 (fun q hq=>hkφ q (hO.names o _ g1 q hq)) (fun q hq ha=>hal q (hO.names o _ g1 q (nS c q hq)) ha) (fun p hp=>(hnil p (h p hp)).1)),k4,k5⟩
     . obtain⟨h1,h2⟩:=hnil _ hm
       have hf:=mH e.nod hm
       refine⟨h2 t e' [] rfl,.inl ⟨by rw[h1],rfl,fun q hq=>?_⟩⟩
       simp only[ψ',hf] at hq
       exact hq
   . rcases hcase o y hy with⟨x,g1,g2,g3⟩|⟨g1,t,e',rfl,hm⟩
     . rcases hcase o' y' hy' with⟨x',g1',g2',g3'⟩|⟨g1',t',e'',rfl,hm'⟩
       . exact hO.disj o x o' x' g1 g1' hne b ((hblk o x y b g2 g3).1 hb) ((hblk o' x' y' b g2' g3').1 hb')
       . exact hnb _ _ _ b hm' hb'
     . exact hnb _ _ _ b hm hb
   . rcases hcase o y hy with⟨x,g1,g2,g3⟩|⟨g1,t,e',rfl,hm⟩
     . exact hO.own o x g1 b ((hblk o x y b g2 g3).1 hb)
     . exact absurd hb (hnb _ _ _ b hm)
   . rcases hcase o y hy with⟨x,g1,g2,g3⟩|⟨g1,t,e',rfl,hm⟩
     . cases g3 with
       |same _ h=>exact hsome q (.inl (hO.names o _ g1 q hq))
       |box T c m h=>
        obtain⟨_,_,_,f4,_⟩:=aBD (P:=cx.P) (φ:=φ) (φ':=φ') (w:=w) (Av:=Av) (al:=bH σ.objs) (al':=bH (os++L)) c T m
        rcases f4 q ((aB3 (iR m c T).1).named q hq) with h5|h5
        . exact hsome q (.inl (hO.names o _ g1 q h5))
        . obtain⟨p,hp,rfl⟩:=List.mem_map.1 h5
          exact hsome _ (.inr (List.mem_map.2 ⟨p,h p hp,rfl⟩))
     . cases hq
   . obtain⟨k1,k2,k3⟩:=hO.av b hb
     refine⟨k1,fun o y hy hq=>?_,k3⟩
     rcases hcase o y hy with⟨x,g1,g2,g3⟩|⟨g1,t,e',rfl,hm⟩
     . exact k2 o x g1 ((hblk o x y b g2 g3).1 hq)
     . exact hnb _ _ _ b hm hq
   . obtain⟨p1,p2,p3⟩:=hO.pin o ho
     refine⟨?_,p2,p3⟩
     rw[<-p1]
     refine hφ o (aCp fun hm=>?_)
     obtain⟨p,hp,rfl⟩:=List.mem_map.1 hm
     have:=e.keys p hp
     omega
   . show a.tmps.size=s.length
     rw[s2];exact hS.size
   . have hx:s[t]?=some x:=hx
     have hlt:t<σ.slots.length:=by rw[<-s2];exact jD hx
     obtain⟨x',g1,g2⟩:=s3 t _ (Zm hlt)
     rw[hx] at g1
     simp only[Zc] at g1
     subst g1
     have hr:=hS.slots t _ v (Zm hlt) hv
     have hn:=hS.names t _ (Zm hlt)
     have agr:(σ.slots[t]).rep cx.P φ' w Av (bH (os++L)) v:=
      aBS (fun _ h=>h) (fun _ _=>rfl) _ (fun q hq=>hkφ q (hn q hq)) (fun q hq ha=>⟨hal q (hn q (sE _ q hq)) ha,xE (hkφ q (hn q (sE _ q hq)))⟩) hr
     generalize σ.slots[t]=y at g2 agr
     cases g2 with
     |same=>exact agr
     |nil m t' e' h=>
      obtain⟨cs,hc,hv'⟩:=agr
      have hc:cs=[.slice none 0 0]:=hc
      have h1:=(hnil _ (hl1 _ h)).1
      refine⟨cs,⟨by rw[hc];simp only[h1],by simp only[h1];rfl⟩,hv'⟩
     |pack c=>
      have pk:=aB3 c
      show c.pack.val cx.P φ' w Av (bH (os++L)) v
      by_cases hu:c=.undef
      . subst hu;exact agr
      by_cases hk:c=.skip
      . subst hk;exact agr
      obtain⟨cs,h1,h2⟩:=hN agr hu hk
      have h3:=pk.cells _ _ _ _ _ _ h1
      rw[<-pk.st] at h2
      generalize c.pack=d at h2 h3
      cases d with
      |undef=>trivial
      |skip=>exact h3.elim
      |_=>exact⟨cs,h3,h2⟩
   . have hx:s[t]?=some x:=hx
     have hlt:t<σ.slots.length:=by rw[<-s2];exact jD hx
     obtain⟨x',g1,g2⟩:=s3 t _ (Zm hlt)
     rw[hx] at g1
     simp only[Zc] at g1
     subst g1
     have hn:=hS.names t _ (Zm hlt)
     generalize σ.slots[t]=y at g2 hn
     cases g2 with
     |same=>exact hsome q (.inl (hn q hq))
     |nil m t' e' h=>
      simp only[SV.named,CT.named,Zq] at hq
      subst hq
      exact hsome _ (.inr (List.mem_map.2 ⟨_,hl1 _ h,rfl⟩))
     |pack c=>exact hsome q (.inl (hn q ((aB3 c).named q hq)))
 . exact hI
theorem aCQ{ids:List Nat}:(l:List (Nat×Obj))->{o:Nat}->find (xJ ids l) o=(find l o).map fun x=>bif aBt o ids then x.turn else x
 |[],o=>rfl
 |(i,x)::r,o=>by
  simp only[xJ,find,Zi,Nat.beq_eq]
  by_cases h:i=o
  . subst h;simp
  . rw[if_neg h,if_neg h]
    have:=aCQ (ids:=ids) r (o:=o)
    simpa only[Zi] using this
theorem aKu(h:Value)(sz:Nat):rest h 0 sz=h:=by
 unfold rest
 split<;>simp
theorem aMJ{σ:St}{a:Act}{w:World}(hI:vG cx σ a w)(take:List Nat):vG cx (σ.turn take) a w:=by
 obtain⟨hd,φ,ψ,Av,hO,hS⟩:=hI
 unfold St.turn
 generalize aCg take σ.slots 0=ids
 have hold:∀o y,find (xJ ids σ.objs) o=some y->∃x,find σ.objs o=some x/\(y=x\/y=x.turn):=by
  intro o y hy
  rw[aCQ] at hy
  cases hx:find σ.objs o with
  |none=>rw[hx] at hy;cases hy
  |some x=>
   rw[hx] at hy
   simp only[Option.map_some,Zc,Zi] at hy
   refine⟨x,rfl,?_⟩
   split at hy
   . exact .inr hy.symm
   . exact .inl hy.symm
 have hal:∀o,bH (xJ ids σ.objs) o->bH σ.objs o:=by
  rintro o ⟨t,e,xs,h⟩
  obtain⟨x,h1,h2⟩:=hold o _ h
  rcases h2 with h2|h2
  . exact⟨t,e,xs,by rw[h1,h2]⟩
  . cases x<;>cases h2
 have hblk:∀o x y b,(y=x\/y=x.turn)->(kL φ ψ o y b↔kL φ ψ o x b):=by
  rintro o x y b (rfl|rfl)
  . exact Iff.rfl
  . cases x<;>exact Iff.rfl
 have hsome:∀q,(find σ.objs q).isSome=true->(find (xJ ids σ.objs) q).isSome=true:=by
  intro q hq
  rw[aCQ,Option.isSome_map];exact hq
 have hbox:∀o x,Obj.rep cx.P φ ψ w Av (bH σ.objs) o x->Obj.rep cx.P φ ψ w Av (bH (xJ ids σ.objs)) o x:=by
  intro o x h
  exact aEI (fun _ h=>h) (fun _ _=>rfl) rfl rfl x (fun _ _=>rfl) (fun q _ ha=>⟨hal q ha,xE rfl⟩) (fun _ _=>rfl) h
 refine⟨hd,φ,ψ,Av,⟨fun o y hy=>?_,fun o y o' y' hy hy' hne b hb hb'=>?_,fun o y hy b hb=>?_,fun o y hy q hq=>?_,fun b hb=>?_,hO.av0,hO.grow,hO.frame,hO.pin⟩,⟨hS.size,fun t x v hx hv=>?_,fun t x hx q hq=>hsome q (hS.names t x hx q hq)⟩⟩
 . obtain⟨x,h1,h2⟩:=hold o y hy
   have hr:=hbox o x (hO.reps o x h1)
   rcases h2 with rfl|rfl
   . exact hr
   . cases x with
     |arr t e xs=>
      obtain⟨r1,r2⟩:=hr
      refine⟨r1,⟨aA8 r2,?_⟩,Nat.le_refl _,?_⟩
      . rcases r2 with⟨k1,k2,_⟩|⟨b,off,cap,c,EE,fr,Fs,k1,_⟩
        . simp only[List.cons.injEq,and_true] at k1
          have k2:xs=[]:=k2
          subst k2
          exact .inr ⟨k1,rfl⟩
        . simp only[List.cons.injEq,and_true] at k1
          exact .inl ⟨b,off,cap,k1⟩
      . rw[Nat.sub_self,aKu];exact r2
     |box T c=>exact hr
     |rng t e m xs=>exact hr
     |dead=>exact hr
 . obtain⟨x,h1,h2⟩:=hold o y hy
   obtain⟨x',h1',h2'⟩:=hold o' y' hy'
   exact hO.disj o x o' x' h1 h1' hne b ((hblk o x y b h2).1 hb) ((hblk o' x' y' b h2').1 hb')
 . obtain⟨x,h1,h2⟩:=hold o y hy
   exact hO.own o x h1 b ((hblk o x y b h2).1 hb)
 . obtain⟨x,h1,h2⟩:=hold o y hy
   refine hsome q (hO.names o x h1 q ?_)
   rcases h2 with rfl|rfl
   . exact hq
   . cases x with
     |box T c=>exact hq
     |_=>cases hq
 . obtain⟨k1,k2,k3⟩:=hO.av b hb
   refine⟨k1,fun o y hy hq=>?_,k3⟩
   obtain⟨x,h1,h2⟩:=hold o y hy
   exact k2 o x h1 ((hblk o x y b h2).1 hq)
 . exact aBS (fun _ h=>h) (fun _ _=>rfl) x (fun _ _=>rfl) (fun q _ ha=>⟨hal q ha,xE rfl⟩) (hS.slots t x v hx hv)
theorem aJz(h:Option aN1)(σ:St)(a:Act)(w:World)(hI:vG cx σ a w):vG cx (σ.norm h) a w:=by
 cases h with
 |none=>exact hI
 |some h=>exact aLO (aNa (aMJ (aDx hI h.keep) h.take) h.own 30000000)
end
theorem aF{P:Program}{E:eI}{f:FuncId}{fn:Func}{s:FS}(hE:aS P E)(hm:P.follows .mixedOrders=true)(hf:P.funcs[f]?=some fn)
 (H:List LC) (hl:∀c,fn.body=some c->aH E H c) (hrun:∀xs,fW s.ps xs->s.pre xs=true->bB E H fn s.ps s.rs xs=some (s.fn xs)):bA P f s:=
 aOF hE hm (fun _ h σ a w _ hI=>aJz h σ a w hI) hf H hl hrun
theorem fn_soundW{P:Program}{E:eI}{f:FuncId}{fn:Func}{s:FS}{real:List Wi}(hE:aS P E)(hm:P.follows .mixedOrders=true)(hf:P.funcs[f]?=some fn)
 (H:List LC) (hl:∀c,fn.body=some c->aH E H c) (hrun:∀xs,fW s.ps xs->s.pre xs=true->qL E H fn s.ps s.rs real xs=some (s.fn xs)):pU P f s real:=
 fn_okW hE hm (fun _ h σ a w _ hI=>aJz h σ a w hI) hf H hl hrun
theorem aM0{E:eI}{H:List LC}{c:Code}(hk:(bF c).map nO=H.map (·.key))(hn:uW (H.map (·.key))=true)
 (hl:∀(i:Nat) l,H[i]?=some l->bM E H ((bF c).getD i .skip) l):aH E H c:=by
 intro d hd l hf
 have hfind:∀(L:List LC) (k:Nat),aDM L k=some l->∃i:Nat,L[i]?=some l/\l.key=k:=by
  intro L k
  induction L with
  |nil=>intro h;cases h
  |cons x r ih=>
   intro h
   simp only[aDM,Zi,Nat.beq_eq] at h
   split at h
   . rename_i e
     simp only[Zc] at h;subst h
     exact⟨0,rfl,e⟩
   . obtain⟨i,h1,h2⟩:=ih h
     exact⟨i+1,h1,h2⟩
 obtain⟨i,h1,h2⟩:=hfind H _ hf
 obtain⟨j,hj⟩:=List.getElem?_of_mem hd
 have e1:(H.map (·.key))[i]?=some (nO d):=by simp[h1,h2]
 have e2:(H.map (·.key))[j]?=some (nO d):=by rw[<-hk];simp[hj]
 have hij:i=j:=by
  have hnd:=rA _ hn
  have hi:i<(H.map (·.key)).length:=(List.getElem?_eq_some_iff.1 e1).1
  exact(List.getElem?_inj hi hnd).1 (e1.trans e2.symm)
 subst hij
 have:=hl i l h1
 rw[List.getD_eq_getElem?_getD,hj] at this
 exact this
end Go.Aw
