/-
 What the printed texts lean on: rounds of loops, known functions.
-/
import Derived.Test.YtdlkgkkfpfglbaaGreatAxK
import Derived.OpenShut
import Derived.ShutString
import Derived.ChangeOld
import Derived.Below
import Derived.SizedLaws
namespace Go.Aw
open Go.IntKind (wrap)
open List (length)
theorem aU{S O:Type}{pre:S->Bool}{μ:S->Nat}{fn:S->O}{s:S}{x y:Option (S⊕O)}(h:x=y)(hr:Rounds pre μ fn s y):Rounds pre μ fn s x:=h▸hr
def cA(fn:Func):Code:=match fn.body with
 |some c=>c
 |none=>.skip
theorem aIr{fn:Func}{c:Code}(h:fn.body=some c):cA fn=c:=by unfold cA;rw[h]
theorem aO{E:eI}{fn:Func}(_h:(bF (cA fn)).isEmpty=true):∀c,fn.body=some c->aH E [] c:=by
 intro c hc d hd l hf
 cases hf
theorem bC{E:eI}{H:List LC}{fn:Func}(hk:(bF (cA fn)).map nO=H.map (·.key))(hn:uW (H.map (·.key))=true)
 (hl:∀(i:Nat) l,H[i]?=some l->bM E H ((bF (cA fn)).getD i .skip) l):∀c,fn.body=some c->aH E H c:=by
 intro c hc
 rw[aIr hc] at hk hl
 exact aM0 hk hn hl
def cE(P:Program)(f:FuncId)(s:FS):Prop:=bA P f s/\∃fn,P.funcs[f]?=some fn/\fn.body.isSome=true/\(fn.name== "runtime.NumGoroutine")=false
def wF(P:Program)(e:uX):Prop:=pU P e.f e.s e.real/\∃fn,P.funcs[e.f]?=some fn/\fn.body.isSome=true/\(fn.name== "runtime.NumGoroutine")=false
theorem aI{P:Program}{θ:List (TypeId×Ty)}(h:∀t T,find θ t=some T->pQ P T (.t t)=true):aS P ⟨θ,[],[]⟩:=
 ⟨h,fun f s h=>(by cases h),fun f g e h=>(by cases h)⟩
theorem oK{P:Program}{θ:List (TypeId×Ty)}{Δ:List uX}{e:uX}(k:wF P e)(h:aS P ⟨θ,[],Δ⟩):aS P ⟨θ,[],e::Δ⟩:=by
 refine⟨h.ty,fun f s hs=>(by cases hs),fun f g x hx=>?_⟩
 simp only[eI.fw,aLq,Zi] at hx
 split at hx
 . rename_i hc
   simp only[Zb,Nat.beq_eq] at hc
   simp only[Zc] at hx
   subst hx
   obtain⟨rfl,_⟩:=hc
   exact k
 . exact h.fw f g x hx
theorem aD{P:Program}{θ:List (TypeId×Ty)}{Γ:List (FuncId×FS)}{Δ:List uX}{f:FuncId}{s:FS}(k:cE P f s)(h:aS P ⟨θ,Γ,Δ⟩):aS P ⟨θ,(f,s)::Γ,Δ⟩:=by
 refine⟨h.ty,fun g s' hg=>?_,h.fw⟩
 simp only[eI.fs,find,Zi,Nat.beq_eq] at hg
 split at hg
 . rename_i e
   simp only[Zc] at hg
   subst e;subst hg
   exact k
 . exact h.fs g s' hg
theorem aND{P:Program}{θ:List (TypeId×Ty)}(h:(θ.all fun p=>pQ P p.2 (.t p.1))=true):∀t T,find θ t=some T->pQ P T (.t t)=true:=by
 intro t T hf
 rw[Zu] at h
 exact h (t,T) (iW hf)
section
variable {H:Type} {enc:TypeId×Value->H} {P:Program} {W:World} {spare:Nat->Bool} {held:Bool}
theorem cells?_seg{w:World}{base:Nat}{a:Addr}{n:Nat}{cs:List Value}(hn:0<n)(h:w.cells? base a n=some cs):
 a.spot=none/\∃l,blk w a.block=some l/\a.off+n<=l.length/\fX l a.off n=cs:=by
 obtain⟨_,hl,hc⟩:=World.cells?_some h
 have h0:=hc 0 (by omega)
 simp only[Addr.add,if_true] at h0
 have hlen:cs.length=n:=hl
 have h00:(w.cell? a).isSome=true:=by rw[h0,Zm (by omega)];rfl
 cases hb:w.heap[a.block]? with
 |none=>simp[World.cell?,hb] at h00
 |some o=>
  cases o with
  |cells c E fr=>
   have hsp:a.spot=none:=by
    cases hs:a.spot with
    |none=>rfl
    |some s=>simp[World.cell?,hb,hs] at h00
   have hg:∀i,i<n->c.toList[a.off+i]?=cs[i]?:=by
    intro i hi
    have h1:=hc i hi
    rw[<-h1]
    unfold Addr.add
    by_cases e:i=0
    . subst e;simp[World.cell?,hb,hsp]
    . simp[World.cell?,hb,e]
   have hge:a.off+n<=c.toList.length:=by
    have h1:=hg (n-1) (by omega)
    have h2:(cs[n-1]?).isSome=true:=by rw[Zm (by omega)];rfl
    rw[<-h1] at h2
    have:=(List.getElem?_eq_some_iff.1 (Option.eq_some_of_isSome h2)).1
    omega
   refine⟨hsp,c.toList,by simp[blk,hb],hge,?_⟩
   apply List.ext_getElem?
   intro i
   unfold fX
   rcases Nat.lt_or_ge i n with hi|hi
   . rw[List.getElem?_take_of_lt hi,List.getElem?_drop,hg i hi]
   . rw[List.getElem?_eq_none (by simp;omega),List.getElem?_eq_none (by omega)]
  |_=>simp[World.cell?,hb] at h00
def Ty.arg:Ty->Bool
 |.op=>false
 |.sl _ e=>e.arg&&Nat.blt 0 e.sz
 |.pair a b=>a.arg&&b.arg
 |_=>true
def aHy(W:World)(b:Nat):Prop:=b<W.heap.size
mutual
theorem aDF:(T:Ty)->(t:TypeId)->(n:Nat)->{cs:List Value}->{x:DataW H×List MemPlace}->pQ P T (.t t)=true->T.arg=true->
 DataW.trod enc P W 0 spare held n t cs=some x->∃d:T.D,vK W (aHy W) T d cs
 |.int k,t,n,cs,x,ht,_,h=>by
  have hu:P.underlying t=some (.int k):=by
   simp only[pQ,Zb] at ht
   obtain⟨_,ht⟩:=ht
   split at ht
   . rename_i k' hk;rw[hk,Ze ht]
   . cases ht
  obtain⟨m,rfl,rfl,hw⟩:=DataW.trod_int hu h
  refine⟨m,rfl,?_⟩
  simp only[Lit.wf,Zb,Za] at hw
  exact hw
 |.bool,t,n,cs,x,ht,_,h=>by
  have hu:P.underlying t=some .bool:=by
   simp only[pQ,Zb] at ht
   obtain⟨_,ht⟩:=ht
   split at ht
   . rename_i hk;exact hk
   . cases ht
  obtain⟨b,rfl,_⟩:=DataW.trod_bool hu h
  exact⟨b,rfl⟩
 |.str,t,n,cs,x,ht,_,h=>by
  have hu:P.underlying t=some .string:=by
   simp only[pQ,Zb] at ht
   obtain⟨_,ht⟩:=ht
   split at ht
   . rename_i hk;exact hk
   . cases ht
  obtain⟨s,rfl,_,hm⟩:=DataW.trod_string hu h
  refine⟨s.data.toList,?_,?_⟩
  . simp
  . simpa using hm
 |.op,t,n,cs,x,ht,hd,h=>by cases hd
 |.unit,t,n,cs,x,ht,hd,h=>by cases ht
 |.sl te e,t,n,cs,x,ht,hd,h=>by
  simp only[pQ,Zb] at ht
  obtain⟨⟨_,hu⟩,hte⟩:=ht
  simp only[Ty.arg,Zb,Nat.blt_eq] at hd
  obtain⟨hd,hz⟩:=hd
  have hu:P.underlying t=some (.slice te):=by
   split at hu
   . rename_i u hk;rw[hk,Nat.eq_of_beq_eq_true hu]
   . cases hu
  have hce:=aEQ hte
  rcases DataW.trod_slice hu h with⟨rfl,_⟩|⟨a,len,cap,elems,rest,m,_,rfl,_,_,hl,hm,hlen,hel,_,_⟩
  . exact⟨[],.inl ⟨rfl,rfl⟩⟩
  . have hx:∀i,i<len->∃cs',W.cells? 0 (a.add (i*e.sz)) e.sz=some cs'/\∃d:e.D,vK W (aHy W) e d cs':=by
     intro i hi
     have h1:=hel i hi
     rw[hce,Zm (by omega),Option.bind_eq_some_iff] at h1
     obtain⟨cs',h2,h3⟩:=h1
     exact⟨cs',h2,aDF e te m hte hd h3⟩
    have hmk:∀k,k<=len->∃ds:List e.D,ds.length=k/\∀(i:Nat) (d:e.D),ds[i]?=some d->∃cs',W.cells? 0 (a.add (i*e.sz)) e.sz=some cs'/\vK W (aHy W) e d cs':=by
     intro k
     induction k with
     |zero=>exact fun _=>⟨[],rfl,fun i d h=>by simp at h⟩
     |succ k ih=>
      intro hk
      obtain⟨ds,g1,g2⟩:=ih (by omega)
      obtain⟨cs',g3,d,g4⟩:=hx k (by omega)
      refine⟨ds++[d],by simp[g1],fun i d' hi=>?_⟩
      rcases Nat.lt_or_ge i ds.length with hlt|hge
      . rw[List.getElem?_append_left hlt] at hi;exact g2 i d' hi
      . rw[List.getElem?_append_right hge] at hi
        have hi0:i=k:=by
         have:=(List.getElem?_eq_some_iff.1 hi).1
         simp at this;omega
        subst hi0
        simp only[g1,Nat.sub_self,List.getElem?_cons_zero,Zc] at hi
        subst hi
        exact⟨cs',g3,g4⟩
    obtain⟨ds,g1,g2⟩:=hmk len (Nat.le_refl _)
    refine⟨ds,.inr ⟨a.block,a.off,cap,a.spot,by show[Value.slice (some a) len cap]=_;rw[show length (α:=e.D) ds=len from g1],by rw[show length (α:=e.D) ds=len from g1];exact hl,by rw[show length (α:=e.D) ds=len from g1];omega,?_⟩⟩
    rcases Nat.eq_zero_or_pos len with h0|hpos
    . exact .inl (List.eq_nil_of_length_eq_zero (g1.trans h0))
    . have first:=g2 0 (ds[0]'(by omega)) (Zm _)
      obtain⟨cs0,f1,_⟩:=first
      simp only[Nat.zero_mul,Addr.add,if_true] at f1
      obtain⟨hsp,l,hb,_,_⟩:=cells?_seg hz f1
      have hlt:a.block<W.heap.size:=by
       rcases Nat.lt_or_ge a.block W.heap.size with h|h
       . exact h
       . simp[blk,Array.getElem?_eq_none h] at hb
      have each:∀i,i<len->∀(d:e.D),ds[i]?=some d->a.off+i*e.sz+e.sz<=l.length/\vK W (aHy W) e d (fX l (a.off+i*e.sz) e.sz):=by
       intro i hi d hd'
       obtain⟨cs',k1,k2⟩:=g2 i d hd'
       obtain⟨_,l',hb',hl',hs'⟩:=cells?_seg hz k1
       have e1:(a.add (i*e.sz)).block=a.block:=by unfold Addr.add;split<;>rfl
       have e2:(a.add (i*e.sz)).off=a.off+i*e.sz:=by unfold Addr.add;split<;>simp_all
       rw[e1] at hb'
       rw[hb] at hb'
       simp only[Zc] at hb'
       subst hb'
       rw[e2] at hl' hs'
       exact⟨hl',by rw[hs'];exact k2⟩
      refine .inr ⟨hsp,hlt,l,hb,?_,fun i d hi=>(each i (by have:=(List.getElem?_eq_some_iff.1 hi).1;omega) d hi).2⟩
      have:=(each (len-1) (by omega) (ds[len-1]'(by omega)) (Zm _)).1
      show a.off+length (α:=e.D) ds*e.sz<=l.length
      rw[show length (α:=e.D) ds=len from g1]
      have e3:len*e.sz=(len-1)*e.sz+e.sz:=by
       rw[<-Nat.succ_mul];congr 1;omega
      omega
 |.pair A B,t,n,cs,x,ht,hd,h=>by
  simp only[pQ,Zb] at ht
  obtain⟨⟨⟨hi,_⟩,_⟩,hu⟩:=ht
  split at hu
  . rename_i fs hfs
    split at hu
    . rename_i f r hfr
      simp only[Zb,Nat.beq_eq] at hu
      obtain⟨⟨⟨h0,_⟩,hA⟩,hB⟩:=hu
      obtain⟨xs,m,_,_,hlen,hxs,hf⟩:=DataW.trod_struct hfs h
      simp only[Ty.arg,Zb] at hd
      obtain⟨i,g1,g2,_⟩:=tU hi
      have hc:cs.length=A.sz+B.sz:=by
       rw[hlen]
       simp[Program.cellsOf,g1,g2,Ty.sz]
      have hff:∀(j:Nat) (f':Field),(f::r)[j]?=some f'->∃y,DataW.trod enc P W 0 spare held m f'.type ((cs.drop f'.offset).take (P.cellsOf f'.type))=some y:=by
       intro j f' hj
       have hj':fs[j]?=some f':=by rw[<-Array.getElem?_toList,hfr];exact hj
       have h1:=hf j f' hj'
       have hlt:j<xs.length:=by rw[hxs];exact(Array.getElem?_eq_some_iff.1 hj').1
       rw[Zm hlt] at h1
       exact⟨_,h1⟩
      obtain⟨y,hy⟩:=hff 0 f rfl
      rw[h0,aEQ hA,List.drop_zero] at hy
      obtain⟨a,ha⟩:=aDF A f.type m hA hd.1 hy
      obtain⟨b,hb⟩:=aK7 B r A.sz m hB hd.2 hc fun j f' hj=>hff (j+1) f' (by simpa using hj)
      exact⟨(a,b),_,_,(List.take_append_drop A.sz cs).symm,ha,hb⟩
    . cases hu
  . cases hu
theorem aK7:(T:Ty)->(r:List Field)->(off n:Nat)->{cs:List Value}->pQ P T (.fs r off)=true->T.arg=true->cs.length=off+T.sz->
 (∀(j:Nat) (f':Field),r[j]?=some f'->∃y,DataW.trod enc P W 0 spare held n f'.type ((cs.drop f'.offset).take (P.cellsOf f'.type))=some y)->∃d:T.D,vK W (aHy W) T d (cs.drop off)
 |.unit,r,off,n,cs,ht,_,hc,_=>by
  refine⟨(),?_⟩
  show cs.drop off=[]
  exact Zt (by simp only[Ty.sz] at hc;omega)
 |.pair A B,[],off,n,cs,ht,_,hc,_=>by cases ht
 |.pair A B,f::r,off,n,cs,ht,hd,hc,hff=>by
  simp only[pQ,Zb,Nat.beq_eq] at ht
  obtain⟨⟨⟨h0,_⟩,hA⟩,hB⟩:=ht
  simp only[Ty.arg,Zb] at hd
  simp only[Ty.sz] at hc
  obtain⟨y,hy⟩:=hff 0 f rfl
  rw[h0,aEQ hA] at hy
  obtain⟨a,ha⟩:=aDF A f.type n hA hd.1 hy
  obtain⟨b,hb⟩:=aK7 B r (off+A.sz) n hB hd.2 (by omega) fun j f' hj=>hff (j+1) f' (by simpa using hj)
  refine⟨(a,b),_,_,(List.take_append_drop A.sz (cs.drop off)).symm,ha,?_⟩
  rw[List.drop_drop];exact hb
 |.int _,r,off,n,cs,ht,_,_,_=>by cases ht
 |.bool,r,off,n,cs,ht,_,_,_=>by cases ht
 |.str,r,off,n,cs,ht,_,_,_=>by cases ht
 |.op,r,off,n,cs,ht,_,_,_=>by cases ht
 |.sl _ _,r,off,n,cs,ht,_,_,_=>by cases ht
end
end
end Go.Aw
