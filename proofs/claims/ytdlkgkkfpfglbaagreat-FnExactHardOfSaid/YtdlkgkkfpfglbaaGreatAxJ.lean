/-
 The head of a loop, whole.
-/
import Derived.Test.YtdlkgkkfpfglbaaGreatAxI
namespace Go.Aw
inductive aA2(l:List (Nat×Obj)):Obj->Obj->Prop where
 |same (x:Obj) (h:∀T c,x≠.box T c):aA2 l x x
 |box (T:Ty) (c:CT) (m:Nat) (h:∀p∈(iR m c T).2.1,p∈l):aA2 l (.box T c) (.box T (iR m c T).1.pack)
theorem aA2.more{l l':List (Nat×Obj)}{x y:Obj}(h:aA2 l x y)(hl:∀p∈l,p∈l'):aA2 l' x y:=by
 cases h with
 |same x h=>exact .same x h
 |box T c m h=>exact .box T c m fun p hp=>hl p (h p hp)
theorem aAu:(objs:List (Nat×Obj))->(n:Nat)->Empties (kU n objs).2.1 n (kU n objs).2.2/\(∀o,find objs o=none->find (kU n objs).1 o=none)/\
 ∀o x,find objs o=some x->∃y,find (kU n objs).1 o=some y/\aA2 (kU n objs).2.1 x y
 |[],n=>⟨.none,fun _ _=>rfl,fun o x h=>by cases h⟩
 |(i,.box T c)::r,n=>by
  obtain⟨e1,_⟩:=aBD (P:=default) (φ:=fun _=>⟨0,0,(0,0),[],[],.unit,undef,.unit⟩) (φ':=fun _=>⟨0,0,(0,0),[],[],.unit,undef,.unit⟩) (w:=default) (Av:=fun _=>True) (al:=fun _=>True) (al':=fun _=>True) c T n
  obtain⟨h1,h2,h3⟩:=aAu r (iR n c T).2.2
  refine⟨e1.app h1,fun o ho=>?_,fun o x ho=>?_⟩
  . simp only[find,Zi,Nat.beq_eq,kU] at ho ⊢
    split at ho
    . cases ho
    . rename_i hne;rw[if_neg hne];exact h2 o ho
  . simp only[find,Zi,Nat.beq_eq,kU] at ho ⊢
    split at ho
    . rename_i he
      rw[if_pos he]
      simp only[Zc] at ho
      subst ho
      exact⟨_,rfl,.box T c n fun p hp=>Zp.2 (.inl hp)⟩
    . rename_i hne
      rw[if_neg hne]
      obtain⟨y,g1,g2⟩:=h3 o x ho
      exact⟨y,g1,g2.more fun p hp=>Zp.2 (.inr hp)⟩
 |(i,.arr t e xs)::r,n=>other (.arr t e xs) (fun T c h=>by cases h) i r n rfl
 |(i,.rng t e m xs)::r,n=>other (.rng t e m xs) (fun T c h=>by cases h) i r n rfl
 |(i,.dead)::r,n=>other .dead (fun T c h=>by cases h) i r n rfl
where
 other (z:Obj) (hz:∀T c,z≠.box T c) (i:Nat) (r:List (Nat×Obj)) (n:Nat) (he:kU n ((i,z)::r)=((i,z)::(kU n r).1,(kU n r).2.1,(kU n r).2.2)):
  Empties (kU n ((i,z)::r)).2.1 n (kU n ((i,z)::r)).2.2/\(∀o,find ((i,z)::r) o=none->find (kU n ((i,z)::r)).1 o=none)/\
  ∀o x,find ((i,z)::r) o=some x->∃y,find (kU n ((i,z)::r)).1 o=some y/\aA2 (kU n ((i,z)::r)).2.1 x y:=by
  obtain⟨h1,h2,h3⟩:=aAu r n
  rw[he]
  refine⟨h1,fun o ho=>?_,fun o x ho=>?_⟩
  . simp only[find,Zi,Nat.beq_eq] at ho ⊢
    split at ho
    . cases ho
    . rename_i hne;rw[if_neg hne];exact h2 o ho
  . simp only[find,Zi,Nat.beq_eq] at ho ⊢
    split at ho
    . rename_i hio
      rw[if_pos hio]
      simp only[Zc] at ho
      subst ho
      exact⟨_,rfl,.same _ hz⟩
    . rename_i hne
      rw[if_neg hne]
      exact h3 o x ho
inductive xB(l:List (Nat×Obj)):SV->SV->Prop where
 |same (s:SV):xB l s s
 |nil (n:Nat) (t:TypeId) (e:Ty) (h:(n,Obj.arr t e [])∈l):xB l (.one .nil) (.one (.arr n))
 |pack (c:CT):xB l (.one c) (.one c.pack)
theorem xB.more{l l':List (Nat×Obj)}{x y:SV}(h:xB l x y)(hl:∀p∈l,p∈l'):xB l' x y:=by
 cases h with
 |same=>exact .same _
 |nil n t e h=>exact .nil n t e (hl _ h)
 |pack c=>exact .pack c
def aGX(l:List SV)(n:Nat)(r:List SV×List (Nat×Obj)×Nat):Prop:=
 Empties r.2.1 n r.2.2/\r.1.length=l.length/\∀(t:Nat) (s:SV),l[t]?=some s->∃s',r.1[t]?=some s'/\xB r.2.1 s s'
theorem zT{l:List SV}{n n1:Nat}{r:List SV×List (Nat×Obj)×Nat}{s s':SV}{m:List (Nat×Obj)}(h:aGX l n1 r)(hm:Empties m n n1)(hs:xB m s s'):aGX (s::l) n (s'::r.1,m++r.2.1,r.2.2):=by
 obtain⟨h1,h2,h3⟩:=h
 refine⟨hm.app h1,by simp[h2],fun t x hx=>?_⟩
 cases t with
 |zero=>
  simp only[List.getElem?_cons_zero,Zc] at hx
  subst hx
  exact⟨s',rfl,hs.more fun p hp=>Zp.2 (.inl hp)⟩
 |succ t=>
  simp only[List.getElem?_cons_succ] at hx
  obtain⟨y,g1,g2⟩:=h3 t x hx
  exact⟨y,by simpa using g1,g2.more fun p hp=>Zp.2 (.inr hp)⟩
theorem tD(own:List (Nat×TypeId×Ty)):(l:List SV)->(n i:Nat)->aGX l n (sA n own l i)
 |[],n,i=>⟨.none,rfl,fun t s h=>by simp at h⟩
 |.tup c::r,n,i=>zT (m:=[]) (tD own r n (i+1)) .none (.same _)
 |.one c::r,n,i=>by
  have pk:=zT (m:=[]) (tD own r n (i+1)) .none (.pack c)
  cases c with
  |nil=>
   simp only[sA]
   cases hf:find own i with
   |none=>exact zT (m:=[]) (tD own r n (i+1)) .none (.same _)
   |some te=>
    obtain⟨t,e⟩:=te
    exact zT (m:=[(n,.arr t e [])]) (tD own r (n+1) (i+1)) .one (.nil n t e (by simp))
  |_=>exact pk
end Go.Aw
