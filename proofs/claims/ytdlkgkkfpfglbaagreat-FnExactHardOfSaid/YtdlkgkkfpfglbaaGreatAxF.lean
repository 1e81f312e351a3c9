/-
 The head of a loop: what is forgotten and packed.
-/
import Derived.Test.YtdlkgkkfpfglbaaGreatAxE
namespace Go.Aw
section
variable {cx:Cx}
theorem aE8(keep:List Nat):(l:List SV)->(i t:Nat)->(oX keep l i)[t]?=(l[t]?).map fun s=>bif aBt (i+t) keep then s else .one .undef
 |[],i,t=>by simp[oX]
 |s::r,i,t=>by
  cases t with
  |zero=>simp[oX]
  |succ t=>
   simp only[oX,List.getElem?_cons_succ,aE8 keep r (i+1) t]
   have:i+1+t=i+(t+1):=by omega
   rw[this]
theorem aIw(keep:List Nat):(l:List SV)->(i:Nat)->(oX keep l i).length=l.length
 |[],i=>rfl
 |s::r,i=>by simp[oX,aIw keep r (i+1)]
theorem aDx{σ:St}{a:Act}{w:World}(hI:vG cx σ a w)(keep:List Nat):vG cx (σ.keepOnly keep) a w:=by
 obtain⟨hd,φ,ψ,Av,hO,hS⟩:=hI
 refine⟨hd,φ,ψ,Av,hO,?_,fun t s v hs hv=>?_,fun t s hs q hq=>?_⟩
 . show a.tmps.size=(oX keep σ.slots 0).length
   rw[aIw];exact hS.size
 . have hs:(oX keep σ.slots 0)[t]?=some s:=hs
   rw[aE8] at hs
   cases hx:σ.slots[t]? with
   |none=>rw[hx] at hs;cases hs
   |some x=>
    rw[hx] at hs
    simp only[Option.map_some,Zc,Zi] at hs
    split at hs
    . subst hs;exact hS.slots t x v hx hv
    . subst hs;trivial
 . have hs:(oX keep σ.slots 0)[t]?=some s:=hs
   rw[aE8] at hs
   cases hx:σ.slots[t]? with
   |none=>rw[hx] at hs;cases hs
   |some x=>
    rw[hx] at hs
    simp only[Option.map_some,Zc,Zi] at hs
    split at hs
    . subst hs;exact hS.names t x hx q hq
    . subst hs;cases hq
structure aAd(c d:CT):Prop where
 cells:∀(P:Program) (φ:Nat->dJ) (w:World) (Av al:Nat->Prop) (cs:List Value),c.cells P φ w Av al cs->d.cells P φ w Av al cs
 fits:∀T,c.fits T=true->d.fits T=true
 st:d.isSt=c.isSt
 named:∀q∈d.named,q∈c.named
 df:d.isDef=c.isDef
theorem aAd.refl(c:CT):aAd c c:=⟨fun _ _ _ _ _ _ h=>h,fun _ h=>h,rfl,fun _ h=>h,rfl⟩
theorem aJb{a b c d:CT}(h:aAd a c)(g:aAd b d):aAd (.pair a b) (.pair c d):=by
 refine⟨fun P φ w Av al cs hc=>?_,fun T hf=>?_,rfl,fun q hq=>?_,rfl⟩
 . obtain⟨c1,c2,h1,h2,h3⟩:=hc
   exact⟨c1,c2,h1,h.cells _ _ _ _ _ _ h2,g.cells _ _ _ _ _ _ h3⟩
 . cases T with
   |pair A B=>
    simp only[CT.fits,Zb] at hf ⊢
    exact⟨h.fits A hf.1,g.fits B hf.2⟩
   |_=>cases hf
 . simp only[CT.named,Zp] at hq ⊢
   exact hq.imp (h.named q) (g.named q)
theorem aKI(A B:Ty)(x:A.D)(y:B.D):aAd (.pair (.dat A x) (.dat B y)) (.dat (.pair A B) (x,y)):=by
 refine⟨fun _ _ _ _ _ _ hc=>hc,fun T hf=>?_,rfl,fun q hq=>(by cases hq),rfl⟩
 cases T with
 |pair C D=>
  simp only[CT.fits,Zb,Za] at hf ⊢
  rw[hf.1,hf.2]
 |_=>cases hf
theorem aJ2(A:Ty)(x:A.D):aAd (.pair (.dat A x) .unit) (.dat (.pair A .unit) (x,())):=by
 refine⟨fun _ _ _ _ _ _ hc=>hc,fun T hf=>?_,rfl,fun q hq=>(by cases hq),rfl⟩
 cases T with
 |pair C D=>
  simp only[CT.fits,Zb,Za] at hf ⊢
  cases D<;>first|(rw[hf.1];done)|cases hf.2
 |_=>cases hf
theorem aAd.trans{a b c:CT}(h:aAd a b)(g:aAd b c):aAd a c:=
 ⟨fun P φ w Av al cs hc=>g.cells _ _ _ _ _ _ (h.cells _ _ _ _ _ _ hc),fun T hf=>g.fits T (h.fits T hf),g.st.trans h.st,fun q hq=>h.named q (g.named q hq),g.df.trans h.df⟩
theorem aB3:(c:CT)->aAd c c.pack
 |.pair a b=>by
  have h:=aJb (aB3 a) (aB3 b)
  simp only[CT.pack]
  split
  . rename_i A x B y h1 h2
    rw[h1,h2] at h
    exact h.trans (aKI A B x y)
  . rename_i A x h1 h2
    rw[h1,h2] at h
    exact h.trans (aJ2 A x)
  . exact h
 |.undef=>.refl _
 |.skip=>.refl _
 |.nil=>.refl _
 |.unit=>.refl _
 |.dat _ _=>.refl _
 |.arr _=>.refl _
 |.sub _ _ _=>.refl _
 |.bor _ _=>.refl _
 |.bptr _ _ _=>.refl _
 |.eptr _ _ _=>.refl _
 |.dptr _ _=>.refl _
 |.clo _ _=>.refl _
 |.fn _ _ _ _=>.refl _
end
end Go.Aw
