/-
 The head of a loop: slices of nobody get objects.
-/
import Derived.Test.YtdlkgkkfpfglbaaGreatAxH
namespace Go.Aw
structure Empties(l:List (Nat×Obj))(n n':Nat):Prop where
 le:n<=n'
 keys:∀p∈l,n<=p.1/\p.1<n'
 nod:(l.map (·.1)).Nodup
 arr:∀p∈l,∃t e,p.2=.arr t e []
theorem Empties.none{n:Nat}:Empties [] n n:=⟨Nat.le_refl _,(fun p hp=>by cases hp),by simp,(fun p hp=>by cases hp)⟩
theorem Empties.one{n:Nat}{t:TypeId}{e:Ty}:Empties [(n,.arr t e [])] n (n+1):=by
 refine⟨Nat.le_succ n,fun p hp=>?_,by simp,fun p hp=>?_⟩
 . simp only[Zq] at hp;subst hp;exact⟨Nat.le_refl _,Nat.lt_succ_self _⟩
 . simp only[Zq] at hp;subst hp;exact⟨t,e,rfl⟩
theorem Empties.app{l r:List (Nat×Obj)}{n n1 n2:Nat}(h:Empties l n n1)(g:Empties r n1 n2):Empties (l++r) n n2:=by
 have hl:=h.le
 have gl:=g.le
 refine⟨by omega,fun p hp=>?_,?_,fun p hp=>(Zp.1 hp).elim (h.arr p) (g.arr p)⟩
 . rcases Zp.1 hp with hp|hp
   . have:=h.keys p hp;omega
   . have:=g.keys p hp;omega
 . rw[List.map_append,List.nodup_append]
   refine⟨h.nod,g.nod,fun a ha b hb=>?_⟩
   obtain⟨p,hp,rfl⟩:=List.mem_map.1 ha
   obtain⟨p',hp',rfl⟩:=List.mem_map.1 hb
   have:=h.keys p hp
   have:=g.keys p' hp'
   omega
section
variable {P:Program} {φ φ':Nat->dJ} {w:World} {Av al al':Nat->Prop}
theorem xE{o:Nat}(h:φ' o=φ o):oE φ w φ' w o:=by
 intro p U b off hr
 refine⟨?_,fun _ _ _=>rfl⟩
 unfold rC at hr ⊢
 rw[h];exact hr
theorem aBD:(c:CT)->(T:Ty)->(n:Nat)->Empties (iR n c T).2.1 n (iR n c T).2.2/\(c.fits T=true->(iR n c T).1.fits T=true)/\(iR n c T).1.isSt=c.isSt/\
 (∀q∈(iR n c T).1.named,q∈c.named\/q∈(iR n c T).2.1.map (·.1))/\
 ∀cs,c.cells P φ w Av al cs->(∀o∈c.named,φ' o=φ o)->(∀o∈c.deep,al' o->al o)->(∀p∈(iR n c T).2.1,(φ' p.1).hdr=.slice none 0 0)->(iR n c T).1.cells P φ' w Av al' cs:=by
 intro c
 have plain:∀(c:CT) (T:Ty) (n:Nat),iR n c T=(c,[],n)->Empties (iR n c T).2.1 n (iR n c T).2.2/\(c.fits T=true->(iR n c T).1.fits T=true)/\(iR n c T).1.isSt=c.isSt/\
  (∀q∈(iR n c T).1.named,q∈c.named\/q∈(iR n c T).2.1.map (·.1))/\
  ∀cs,c.cells P φ w Av al cs->(∀o∈c.named,φ' o=φ o)->(∀o∈c.deep,al' o->al o)->(∀p∈(iR n c T).2.1,(φ' p.1).hdr=.slice none 0 0)->(iR n c T).1.cells P φ' w Av al' cs:=by
  intro c T n h
  rw[h]
  exact⟨.none,fun h=>h,rfl,fun q hq=>.inl hq,fun cs hc hφ hd _=>lK (fun _ h=>h) (fun _ _=>rfl) c hφ (fun o ho ha=>⟨hd o ho ha,xE (hφ o (nS c o ho))⟩) hc⟩
 induction c with
 |nil=>
  intro T n
  cases T with
  |sl t e=>
   refine⟨.one,fun _=>rfl,rfl,fun q hq=>.inr hq,fun cs hc hφ hd hn=>?_⟩
   have hc:cs=[.slice none 0 0]:=hc
   have:=hn (n,.arr t e []) (by simp[iR])
   exact⟨by rw[hc,this],by rw[this];rfl⟩
  |_=>exact plain _ _ n rfl
 |pair a b iha ihb=>
  intro T n
  cases T with
  |pair A B=>
   obtain⟨a1,a2,a3,a4,a5⟩:=iha A n
   obtain⟨b1,b2,b3,b4,b5⟩:=ihb B (iR n a A).2.2
   refine⟨a1.app b1,fun hf=>?_,rfl,fun q hq=>?_,fun cs hc hφ hd hn=>?_⟩
   . simp only[CT.fits,Zb] at hf
     simp only[iR,CT.fits,Zb]
     exact⟨a2 hf.1,b2 hf.2⟩
   . simp only[iR,CT.named,Zp,List.map_append] at hq ⊢
     rcases hq with hq|hq
     . exact(a4 q hq).elim (fun h=>.inl (.inl h)) (fun h=>.inr (.inl h))
     . exact(b4 q hq).elim (fun h=>.inl (.inr h)) (fun h=>.inr (.inr h))
   . obtain⟨c1,c2,rfl,h1,h2⟩:=hc
     exact⟨c1,c2,rfl,a5 c1 h1 (fun o ho=>hφ o (by simp[CT.named,ho])) (fun o ho=>hd o (by simp[CT.deep,ho])) (fun p hp=>hn p (Zp.2 (.inl hp))),
      b5 c2 h2 (fun o ho=>hφ o (by simp[CT.named,ho])) (fun o ho=>hd o (by simp[CT.deep,ho])) (fun p hp=>hn p (Zp.2 (.inr hp)))⟩
  |_=>exact plain _ _ n rfl
 |_=>intro T n;exact plain _ T n (by cases T<;>rfl)
end
end Go.Aw
