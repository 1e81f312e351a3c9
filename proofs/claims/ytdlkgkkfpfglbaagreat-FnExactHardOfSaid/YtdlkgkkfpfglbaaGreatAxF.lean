/-
 The head of a loop: what is forgotten and packed.
-/
import Derived.Test.YtdlkgkkfpfglbaaGreatAxE
namespace Go.Aw
section
variable {cx:Cx}
theorem aED(keep:List Nat):(l:List SV)->(i t:Nat)->(pE keep l i)[t]?=(l[t]?).map fun s=>bif aBv (i+t) keep then s else .one .undef
 |[],i,t=>by simp[pE]
 |s::r,i,t=>by
  cases t with
  |zero=>simp[pE]
  |succ t=>
   simp only[pE,List.getElem?_cons_succ,aED keep r (i+1) t]
   have:i+1+t=i+(t+1):=by omega
   rw[this]
theorem aHT(keep:List Nat):(l:List SV)->(i:Nat)->(pE keep l i).length=l.length
 |[],i=>rfl
 |s::r,i=>by simp[pE,aHT keep r (i+1)]
theorem aDw{σ:St}{a:Act}{w:World}(hI:vQ cx σ a w)(keep:List Nat):vQ cx (σ.keepOnly keep) a w:=by
 obtain⟨hd,φ,ψ,Av,hO,hS⟩:=hI
 refine⟨hd,φ,ψ,Av,hO,?_,fun t s v hs hv=>?_,fun t s hs q hq=>?_⟩
 . show a.tmps.size=(pE keep σ.slots 0).length
   rw[aHT];exact hS.size
 . have hs:(pE keep σ.slots 0)[t]?=some s:=hs
   rw[aED] at hs
   cases hx:σ.slots[t]? with
   |none=>rw[hx] at hs;cases hs
   |some x=>
    rw[hx] at hs
    simp only[Option.map_some,Zc,Zi] at hs
    split at hs
    . subst hs;exact hS.slots t x v hx hv
    . subst hs;trivial
 . have hs:(pE keep σ.slots 0)[t]?=some s:=hs
   rw[aED] at hs
   cases hx:σ.slots[t]? with
   |none=>rw[hx] at hs;cases hs
   |some x=>
    rw[hx] at hs
    simp only[Option.map_some,Zc,Zi] at hs
    split at hs
    . subst hs;exact hS.names t x hx q hq
    . subst hs;cases hq
structure aAb(c d:CT):Prop where
 cells:∀(P:Program) (φ:Nat->dM) (w:World) (Av al:Nat->Prop) (cs:List Value),c.cells P φ w Av al cs->d.cells P φ w Av al cs
 fits:∀T,c.fits T=true->d.fits T=true
 st:d.isSt=c.isSt
 named:∀q∈d.named,q∈c.named
 df:d.isDef=c.isDef
theorem aAb.refl(c:CT):aAb c c:=⟨fun _ _ _ _ _ _ h=>h,fun _ h=>h,rfl,fun _ h=>h,rfl⟩
theorem aJ7{a b c d:CT}(h:aAb a c)(g:aAb b d):aAb (.pair a b) (.pair c d):=by
 refine⟨fun P φ w Av al cs hc=>?_,fun T hf=>?_,rfl,fun q hq=>?_,rfl⟩
 . obtain⟨c1,c2,h1,h2,h3⟩:=hc
   exact⟨c1,c2,h1,h.cells _ _ _ _ _ _ h2,g.cells _ _ _ _ _ _ h3⟩
 . cases T with
   |pair A B=>
    simp only[CT.fits,Zb] at hf ⊢
    exact⟨h.fits A hf.1,g.fits B hf.2⟩
   |_=>cases hf
 . simp only[CT.named,Zp] at hq ⊢
   exact hq.imp (h.named q) (g.named q)
theorem aKs(A B:Ty)(x:A.D)(y:B.D):aAb (.pair (.dat A x) (.dat B y)) (.dat (.pair A B) (x,y)):=by
 refine⟨fun _ _ _ _ _ _ hc=>hc,fun T hf=>?_,rfl,fun q hq=>(by cases hq),rfl⟩
 cases T with
 |pair C D=>
  simp only[CT.fits,Zb,Za] at hf ⊢
  rw[hf.1,hf.2]
 |_=>cases hf
theorem aIF(A:Ty)(x:A.D):aAb (.pair (.dat A x) .unit) (.dat (.pair A .unit) (x,())):=by
 refine⟨fun _ _ _ _ _ _ hc=>hc,fun T hf=>?_,rfl,fun q hq=>(by cases hq),rfl⟩
 cases T with
 |pair C D=>
  simp only[CT.fits,Zb,Za] at hf ⊢
  cases D<;>first|(rw[hf.1];done)|cases hf.2
 |_=>cases hf
theorem aAb.trans{a b c:CT}(h:aAb a b)(g:aAb b c):aAb a c:=
 ⟨fun P φ w Av al cs hc=>g.cells _ _ _ _ _ _ (h.cells _ _ _ _ _ _ hc),fun T hf=>g.fits T (h.fits T hf),g.st.trans h.st,fun q hq=>h.named q (g.named q hq),g.df.trans h.df⟩
theorem aAV:(c:CT)->aAb c c.pack
 |.pair a b=>by
  have h:=aJ7 (aAV a) (aAV b)
  simp only[CT.pack]
  split
  . rename_i A x B y h1 h2
    rw[h1,h2] at h
    exact h.trans (aKs A B x y)
  . rename_i A x h1 h2
    rw[h1,h2] at h
    exact h.trans (aIF A x)
  . exact h
 |.undef=>.refl _
 |.skip=>.refl _
 |.nil=>.refl _
 |.unit=>.refl _
 |.dat _ _=>.refl _
 |.arr _=>.refl _
 |.sub _ _ _=>.refl _
 |.bor _ _=>.refl _
 |.bptr _ _ _=>.refl _
 |.eptr _ _ _=>.refl _
 |.dptr _ _=>.refl _
 |.clo _ _=>.refl _
 |.fn _ _ _ _=>.refl _
end
end Go.Aw
