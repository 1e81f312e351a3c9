/-
 The head of a loop: new numbers.
-/
import Derived.Test.YtdlkgkkfpfglbaaGreatAxF
namespace Go.Aw
section
variable {cx:Cx} {P:Program} {φ φ':Nat->dJ} {w:World} {Av al al':Nat->Prop} {π:List (Nat×Nat)}
theorem aIz(c:CT):(c.ren π).isSt=c.isSt:=by
 cases c<;>simp only[CT.ren]<;>(try split)<;>rfl
theorem yH(hφ:∀o q,find π o=some q->φ' q=φ o)(hal:∀o q,find π o=some q->al' q->al o):(c:CT)->{cs:List Value}->c.cells P φ w Av al cs->(c.ren π).cells P φ' w Av al' cs
 |.arr o,cs,h=>by
  obtain⟨h1,h2⟩:=h
  simp only[CT.ren]
  split
  . rename_i q hq;exact⟨by rw[hφ o q hq];exact h1,by rw[hφ o q hq];exact h2⟩
  . exact⟨_,h1,h2⟩
 |.sub o lo hi,cs,h=>by
  obtain⟨v,h1,h2⟩:=h
  simp only[CT.ren]
  split
  . rename_i q hq;exact⟨v,h1,by rw[hφ o q hq];exact h2⟩
  . exact⟨v,h1,aDO h2⟩
 |.bor o p,cs,h=>by
  obtain⟨v,h1,h2,h3⟩:=h
  simp only[CT.ren]
  split
  . rename_i q hq
    refine⟨v,h1,h2,fun ha=>?_⟩
    obtain⟨t,e,b,off,g1,g2⟩:=h3 (hal o q hq ha)
    exact⟨t,e,b,off,by unfold rC at g1 ⊢;rw[hφ o q hq];exact g1,g2⟩
  . exact⟨v,h1,h2⟩
 |.bptr o p T,cs,h=>by
  obtain⟨h1,h2⟩:=h
  simp only[CT.ren]
  split
  . rename_i q hq;exact⟨by rw[hφ o q hq];exact h1,by rw[hφ o q hq];exact h2⟩
  . exact⟨_,h2,rfl⟩
 |.eptr o p T,cs,h=>by
  obtain⟨a,h1,h2⟩:=h
  simp only[CT.ren]
  split
  . rename_i q hq
    refine⟨a,h1,fun ha=>?_⟩
    obtain⟨b,off,g1,g2⟩:=h2 (ha.imp (hal o q hq) id)
    exact⟨b,off,by unfold rC at g1 ⊢;rw[hφ o q hq];exact g1,g2⟩
  . exact⟨_,h1,rfl⟩
 |.clo f c,cs,h=>by
  obtain⟨vs,h1,h2⟩:=h
  exact⟨vs,h1,caps hφ hal c h2⟩
 |.pair a b,cs,h=>by
  obtain⟨c1,c2,h1,h2,h3⟩:=h
  exact⟨c1,c2,h1,yH hφ hal a h2,yH hφ hal b h3⟩
 |.undef,_,h=>h
 |.skip,_,h=>h
 |.nil,_,h=>h
 |.unit,_,h=>h
 |.dat _ _,_,h=>h
 |.dptr _ _,_,h=>h
 |.fn _ _ _ _,_,h=>h
where
 caps (hφ:∀o q,find π o=some q->φ' q=φ o) (hal:∀o q,find π o=some q->al' q->al o):(c:CT)->{cs:List Value}->c.caps P φ w Av al cs->(c.ren π).caps P φ' w Av al' cs
 |.pair a b,cs,h=>by
  obtain⟨v,r,h1,⟨u,h2,h3⟩,h4⟩:=h
  exact⟨v,r,h1,⟨u,yH hφ hal a h2,by rw[aIz];exact h3⟩,caps hφ hal b h4⟩
 |.arr o,cs,h=>by simp only[CT.ren];split<;>exact h
 |.sub o _ _,cs,h=>by simp only[CT.ren];split<;>exact h
 |.bor o _,cs,h=>by simp only[CT.ren];split<;>exact h
 |.bptr o _ _,cs,h=>by simp only[CT.ren];split<;>exact h
 |.eptr o _ _,cs,h=>by simp only[CT.ren];split<;>exact h
 |.clo _ _,_,h=>h
 |.undef,_,h=>h
 |.skip,_,h=>h
 |.nil,_,h=>h
 |.unit,_,h=>h
 |.dat _ _,_,h=>h
 |.dptr _ _,_,h=>h
 |.fn _ _ _ _,_,h=>h
theorem aEG:(c:CT)->{T:Ty}->c.fits T=true->(c.ren π).fits T=true
 |.arr o,T,h=>by
  simp only[CT.ren]
  split<;>(cases T<;>first|rfl|cases h)
 |.sub o _ _,T,h=>by
  simp only[CT.ren]
  split<;>(cases T<;>first|rfl|cases h)
 |.bor o _,T,h=>by
  simp only[CT.ren]
  split<;>(cases T<;>first|rfl|cases h)
 |.bptr o _ _,T,h=>by
  simp only[CT.ren]
  split<;>(cases T<;>first|rfl|cases h)
 |.eptr o _ _,T,h=>by
  simp only[CT.ren]
  split<;>(cases T<;>first|rfl|cases h)
 |.clo f c,T,h=>by cases T<;>first|rfl|cases h
 |.pair a b,T,h=>by
  cases T with
  |pair A B=>
   simp only[CT.fits,Zb] at h
   simp only[CT.ren,CT.fits,Zb]
   exact⟨aEG a h.1,aEG b h.2⟩
  |_=>cases h
 |.undef,_,h=>h
 |.skip,_,h=>h
 |.nil,_,h=>h
 |.unit,_,h=>h
 |.dat _ _,_,h=>h
 |.dptr _ _,_,h=>h
 |.fn _ _ _ _,_,h=>h
theorem yT:(c:CT)->∀q∈(c.ren π).named,∃o,find π o=some q
 |.arr o,q,h=>by
  simp only[CT.ren] at h
  split at h
  . rename_i r hr;simp only[CT.named,Zq] at h;subst h;exact⟨o,hr⟩
  . cases h
 |.sub o _ _,q,h=>by
  simp only[CT.ren] at h
  split at h
  . rename_i r hr;simp only[CT.named,Zq] at h;subst h;exact⟨o,hr⟩
  . cases h
 |.bor o _,q,h=>by
  simp only[CT.ren] at h
  split at h
  . rename_i r hr;simp only[CT.named,Zq] at h;subst h;exact⟨o,hr⟩
  . cases h
 |.bptr o _ _,q,h=>by
  simp only[CT.ren] at h
  split at h
  . rename_i r hr;simp only[CT.named,Zq] at h;subst h;exact⟨o,hr⟩
  . cases h
 |.eptr o _ _,q,h=>by
  simp only[CT.ren] at h
  split at h
  . rename_i r hr;simp only[CT.named,Zq] at h;subst h;exact⟨o,hr⟩
  . cases h
 |.clo _ c,q,h=>yT c q h
 |.pair a b,q,h=>by
  simp only[CT.ren,CT.named,Zp] at h
  exact h.elim (yT a q) (yT b q)
 |.undef,_,h=>by cases h
 |.skip,_,h=>by cases h
 |.nil,_,h=>by cases h
 |.unit,_,h=>by cases h
 |.dat _ _,_,h=>by cases h
 |.dptr _ _,_,h=>by cases h
 |.fn _ _ _ _,_,h=>by cases h
theorem aJC(hφ:∀o q,find π o=some q->φ' q=φ o)(hal:∀o q,find π o=some q->al' q->al o)(c:CT){v:Value}(h:c.val P φ w Av al v):(c.ren π).val P φ' w Av al' v:=by
 by_cases hu:c=.undef
 . subst hu;exact h
 by_cases hs:c=.skip
 . subst hs;exact h
 obtain⟨cs,h1,h2⟩:=hN h hu hs
 have h3:=yH hφ hal c h1
 rw[<-aIz (π:=π) c] at h2
 generalize c.ren π=d at h2 h3
 cases d with
 |undef=>trivial
 |skip=>exact h3.elim
 |_=>exact⟨cs,h3,h2⟩
theorem aHp(hφ:∀o q,find π o=some q->φ' q=φ o)(hal:∀o q,find π o=some q->al' q->al o):(c:CT)->{vs:List Value}->c.vals P φ w Av al vs->(c.ren π).vals P φ' w Av al' vs
 |.pair a b,vs,h=>by
  obtain⟨v,r,h1,h2,h3⟩:=h
  exact⟨v,r,h1,aJC hφ hal a h2,aHp hφ hal b h3⟩
 |.arr o,cs,h=>h.elim
 |.sub o _ _,cs,h=>h.elim
 |.bor o _,cs,h=>h.elim
 |.bptr o _ _,cs,h=>h.elim
 |.eptr o _ _,cs,h=>h.elim
 |.clo _ _,_,h=>h
 |.undef,_,h=>h
 |.skip,_,h=>h
 |.nil,_,h=>h
 |.unit,_,h=>h
 |.dat _ _,_,h=>h
 |.dptr _ _,_,h=>h
 |.fn _ _ _ _,_,h=>h
end
end Go.Aw
