/-
 The head of a loop, whole.
-/
import Derived.Test.YthkbmmjpjcehpaaGreatAxI
namespace Go.Aw
inductive uX(l:List (Nat×Obj)):Obj->Obj->Prop where
 |same (x:Obj) (h:∀T c,x≠.box T c):uX l x x
 |box (T:Ty) (c:CT) (m:Nat) (h:∀p∈(gW m c T).2.1,p∈l):uX l (.box T c) (.box T (gW m c T).1.pack)
theorem uX.more{l l':List (Nat×Obj)}{x y:Obj}(h:uX l x y)(hl:∀p∈l,p∈l'):uX l' x y:=by
 cases h with
 |same x h=>exact .same x h
 |box T c m h=>exact .box T c m fun p hp=>hl p (h p hp)
theorem wP:(objs:List (Nat×Obj))->(n:Nat)->Empties (jE n objs).2.1 n (jE n objs).2.2/\(∀o,find objs o=none->find (jE n objs).1 o=none)/\
 ∀o x,find objs o=some x->∃y,find (jE n objs).1 o=some y/\uX (jE n objs).2.1 x y
 |[],n=>⟨.none,fun _ _=>rfl,fun o x h=>by cases h⟩
 |(i,.box T c)::r,n=>by
  obtain⟨e1,_⟩:=yI (P:=default) (φ:=fun _=>⟨0,0,(0,0),[],[],.unit,undef,.unit⟩) (φ':=fun _=>⟨0,0,(0,0),[],[],.unit,undef,.unit⟩) (w:=default) (Av:=fun _=>True) (al:=fun _=>True) (al':=fun _=>True) c T n
  obtain⟨h1,h2,h3⟩:=wP r (gW n c T).2.2
  refine⟨e1.app h1,fun o ho=>?_,fun o x ho=>?_⟩
  . simp only[find,Zi,Nat.beq_eq,jE] at ho ⊢
    split at ho
    . cases ho
    . rename_i hne;rw[if_neg hne];exact h2 o ho
  . simp only[find,Zi,Nat.beq_eq,jE] at ho ⊢
    split at ho
    . rename_i he
      rw[if_pos he]
      simp only[Zc] at ho
      subst ho
      exact⟨_,rfl,.box T c n fun p hp=>Zp.2 (.inl hp)⟩
    . rename_i hne
      rw[if_neg hne]
      obtain⟨y,g1,g2⟩:=h3 o x ho
      exact⟨y,g1,g2.more fun p hp=>Zp.2 (.inr hp)⟩
 |(i,.arr t e xs)::r,n=>other (.arr t e xs) (fun T c h=>by cases h) i r n rfl
 |(i,.rng t e m xs)::r,n=>other (.rng t e m xs) (fun T c h=>by cases h) i r n rfl
 |(i,.dead)::r,n=>other .dead (fun T c h=>by cases h) i r n rfl
where
 other (z:Obj) (hz:∀T c,z≠.box T c) (i:Nat) (r:List (Nat×Obj)) (n:Nat) (he:jE n ((i,z)::r)=((i,z)::(jE n r).1,(jE n r).2.1,(jE n r).2.2)):
  Empties (jE n ((i,z)::r)).2.1 n (jE n ((i,z)::r)).2.2/\(∀o,find ((i,z)::r) o=none->find (jE n ((i,z)::r)).1 o=none)/\
  ∀o x,find ((i,z)::r) o=some x->∃y,find (jE n ((i,z)::r)).1 o=some y/\uX (jE n ((i,z)::r)).2.1 x y:=by
  obtain⟨h1,h2,h3⟩:=wP r n
  rw[he]
  refine⟨h1,fun o ho=>?_,fun o x ho=>?_⟩
  . simp only[find,Zi,Nat.beq_eq] at ho ⊢
    split at ho
    . cases ho
    . rename_i hne;rw[if_neg hne];exact h2 o ho
  . simp only[find,Zi,Nat.beq_eq] at ho ⊢
    split at ho
    . rename_i hio
      rw[if_pos hio]
      simp only[Zc] at ho
      subst ho
      exact⟨_,rfl,.same _ hz⟩
    . rename_i hne
      rw[if_neg hne]
      exact h3 o x ho
inductive sY(l:List (Nat×Obj)):SV->SV->Prop where
 |same (s:SV):sY l s s
 |nil (n:Nat) (t:TypeId) (e:Ty) (h:(n,Obj.arr t e [])∈l):sY l (.one .nil) (.one (.arr n))
 |pack (c:CT):sY l (.one c) (.one c.pack)
theorem sY.more{l l':List (Nat×Obj)}{x y:SV}(h:sY l x y)(hl:∀p∈l,p∈l'):sY l' x y:=by
 cases h with
 |same=>exact .same _
 |nil n t e h=>exact .nil n t e (hl _ h)
 |pack c=>exact .pack c
def aDp(l:List SV)(n:Nat)(r:List SV×List (Nat×Obj)×Nat):Prop:=
 Empties r.2.1 n r.2.2/\r.1.length=l.length/\∀(t:Nat) (s:SV),l[t]?=some s->∃s',r.1[t]?=some s'/\sY r.2.1 s s'
theorem uZ{l:List SV}{n n1:Nat}{r:List SV×List (Nat×Obj)×Nat}{s s':SV}{m:List (Nat×Obj)}(h:aDp l n1 r)(hm:Empties m n n1)(hs:sY m s s'):aDp (s::l) n (s'::r.1,m++r.2.1,r.2.2):=by
 obtain⟨h1,h2,h3⟩:=h
 refine⟨hm.app h1,by simp[h2],fun t x hx=>?_⟩
 cases t with
 |zero=>
  simp only[List.getElem?_cons_zero,Zc] at hx
  subst hx
  exact⟨s',rfl,hs.more fun p hp=>Zp.2 (.inl hp)⟩
 |succ t=>
  simp only[List.getElem?_cons_succ] at hx
  obtain⟨y,g1,g2⟩:=h3 t x hx
  exact⟨y,by simpa using g1,g2.more fun p hp=>Zp.2 (.inr hp)⟩
theorem pS(own:List (Nat×TypeId×Ty)):(l:List SV)->(n i:Nat)->aDp l n (pA n own l i)
 |[],n,i=>⟨.none,rfl,fun t s h=>by simp at h⟩
 |.tup c::r,n,i=>uZ (m:=[]) (pS own r n (i+1)) .none (.same _)
 |.one c::r,n,i=>by
  have pk:=uZ (m:=[]) (pS own r n (i+1)) .none (.pack c)
  cases c with
  |nil=>
   simp only[pA]
   cases hf:find own i with
   |none=>exact uZ (m:=[]) (pS own r n (i+1)) .none (.same _)
   |some te=>
    obtain⟨t,e⟩:=te
    exact uZ (m:=[(n,.arr t e [])]) (pS own r (n+1) (i+1)) .one (.nil n t e (by simp))
  |_=>exact pk
end Go.Aw
