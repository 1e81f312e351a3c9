/-
 The head of a loop: what is forgotten and packed.
-/
import Derived.Test.YthkbmmjpjcehpaaGreatAxE
namespace Go.Aw
section
variable {cx:Cx}
theorem aCj(keep:List Nat):(l:List SV)->(i t:Nat)->(mL keep l i)[t]?=(l[t]?).map fun s=>bif zB (i+t) keep then s else .one .undef
 |[],i,t=>by simp[mL]
 |s::r,i,t=>by
  cases t with
  |zero=>simp[mL]
  |succ t=>
   simp only[mL,List.getElem?_cons_succ,aCj keep r (i+1) t]
   have:i+1+t=i+(t+1):=by omega
   rw[this]
theorem aEV(keep:List Nat):(l:List SV)->(i:Nat)->(mL keep l i).length=l.length
 |[],i=>rfl
 |s::r,i=>by simp[mL,aEV keep r (i+1)]
theorem aDy{σ:St}{a:Act}{w:World}(hI:rO cx σ a w)(keep:List Nat):rO cx (σ.keepOnly keep) a w:=by
 obtain⟨hd,φ,ψ,Av,hO,hS⟩:=hI
 refine⟨hd,φ,ψ,Av,hO,?_,fun t s v hs hv=>?_,fun t s hs q hq=>?_⟩
 . show a.tmps.size=(mL keep σ.slots 0).length
   rw[aEV];exact hS.size
 . have hs:(mL keep σ.slots 0)[t]?=some s:=hs
   rw[aCj] at hs
   cases hx:σ.slots[t]? with
   |none=>rw[hx] at hs;cases hs
   |some x=>
    rw[hx] at hs
    simp only[Option.map_some,Zc,Zi] at hs
    split at hs
    . subst hs;exact hS.slots t x v hx hv
    . subst hs;trivial
 . have hs:(mL keep σ.slots 0)[t]?=some s:=hs
   rw[aCj] at hs
   cases hx:σ.slots[t]? with
   |none=>rw[hx] at hs;cases hs
   |some x=>
    rw[hx] at hs
    simp only[Option.map_some,Zc,Zi] at hs
    split at hs
    . subst hs;exact hS.names t x hx q hq
    . subst hs;cases hq
structure vV(c d:CT):Prop where
 cells:∀(P:Program) (φ:Nat->cY) (w:World) (Av al:Nat->Prop) (cs:List Value),c.cells P φ w Av al cs->d.cells P φ w Av al cs
 fits:∀T,c.fits T=true->d.fits T=true
 st:d.isSt=c.isSt
 named:∀q∈d.named,q∈c.named
 df:d.isDef=c.isDef
theorem vV.refl(c:CT):vV c c:=⟨fun _ _ _ _ _ _ h=>h,fun _ h=>h,rfl,fun _ h=>h,rfl⟩
theorem aFF{a b c d:CT}(h:vV a c)(g:vV b d):vV (.pair a b) (.pair c d):=by
 refine⟨fun P φ w Av al cs hc=>?_,fun T hf=>?_,rfl,fun q hq=>?_,rfl⟩
 . obtain⟨c1,c2,h1,h2,h3⟩:=hc
   exact⟨c1,c2,h1,h.cells _ _ _ _ _ _ h2,g.cells _ _ _ _ _ _ h3⟩
 . cases T with
   |pair A B=>
    simp only[CT.fits,Zb] at hf ⊢
    exact⟨h.fits A hf.1,g.fits B hf.2⟩
   |_=>cases hf
 . simp only[CT.named,Zp] at hq ⊢
   exact hq.imp (h.named q) (g.named q)
theorem aHb(A B:Ty)(x:A.D)(y:B.D):vV (.pair (.dat A x) (.dat B y)) (.dat (.pair A B) (x,y)):=by
 refine⟨fun _ _ _ _ _ _ hc=>hc,fun T hf=>?_,rfl,fun q hq=>(by cases hq),rfl⟩
 cases T with
 |pair C D=>
  simp only[CT.fits,Zb,Za] at hf ⊢
  rw[hf.1,hf.2]
 |_=>cases hf
theorem aFT(A:Ty)(x:A.D):vV (.pair (.dat A x) .unit) (.dat (.pair A .unit) (x,())):=by
 refine⟨fun _ _ _ _ _ _ hc=>hc,fun T hf=>?_,rfl,fun q hq=>(by cases hq),rfl⟩
 cases T with
 |pair C D=>
  simp only[CT.fits,Zb,Za] at hf ⊢
  cases D<;>first|(rw[hf.1];done)|cases hf.2
 |_=>cases hf
theorem vV.trans{a b c:CT}(h:vV a b)(g:vV b c):vV a c:=
 ⟨fun P φ w Av al cs hc=>g.cells _ _ _ _ _ _ (h.cells _ _ _ _ _ _ hc),fun T hf=>g.fits T (h.fits T hf),g.st.trans h.st,fun q hq=>h.named q (g.named q hq),g.df.trans h.df⟩
theorem xF:(c:CT)->vV c c.pack
 |.pair a b=>by
  have h:=aFF (xF a) (xF b)
  simp only[CT.pack]
  split
  . rename_i A x B y h1 h2
    rw[h1,h2] at h
    exact h.trans (aHb A B x y)
  . rename_i A x h1 h2
    rw[h1,h2] at h
    exact h.trans (aFT A x)
  . exact h
 |.undef=>.refl _
 |.skip=>.refl _
 |.nil=>.refl _
 |.unit=>.refl _
 |.dat _ _=>.refl _
 |.arr _=>.refl _
 |.sub _ _ _=>.refl _
 |.bor _ _=>.refl _
 |.bptr _ _ _=>.refl _
 |.eptr _ _ _=>.refl _
 |.dptr _ _=>.refl _
 |.clo _ _=>.refl _
 |.fn _ _ _ _=>.refl _
end
end Go.Aw
