/-
 What a call promises; evaluation; forgetting places; the end of an operation.
-/
import Derived.Test.YtdlkgkkfpfglbaaGreatAwH
namespace Go.Aw
def rdM(w:World)(Av:Nat->Prop):Md->(T:Ty)->T.D->List Value->(Nat->Prop)->Prop
 |.f,T,x,cs,F=>vK w Av T x cs/\∀q,¬F q
 |.o,T,x,cs,F=>qW w T x cs F
 |.pair m n,.pair a b,x,cs,F=>∃c1 c2,∃F1 F2:Nat->Prop,cs=c1++c2/\(∀q,F q↔(F1 q\/F2 q))/\(∀q,F1 q->¬F2 q)/\rdM w Av m a x.1 c1 F1/\rdM w Av n b x.2 c2 F2
 |.pair _ _,T,x,cs,F=>T.flat=true/\vK w Av T x cs/\∀q,¬F q
 |.np _,T,x,cs,F=>T.flat=true/\vK w Av T x cs/\∀q,¬F q
def aMR(P:Program)(w:World)(Av:Nat->Prop):(p:PM)->oC [p]->Value->(Nat->Prop)->Prop
 |.val T m,x,v,F=>∃cs,v=cS T.isSt cs/\rdM w Av m T x.1 cs F
 |.mut T,x,v,F=>∃cs,v=cS T.isSt cs/\qW w T x.1 cs F
 |.ref T m,x,v,F=>∃b off c E fr F0,v=.pointer (some ⟨b,off,none⟩)/\w.heap[b]?=some (.cells c E fr)/\off+T.sz<=c.size/\xV fr off T.sz/\
  rdM w Av m T x.1 (fX c.toList off T.sz) F0/\¬F0 b/\∀q,F q↔(q=b\/F0 q)
 |.fn A B,x,v,F=>aNz P w Av A B x.1.1 x.1.2 v/\∀q,¬F q
 |.peek T,x,v,F=>(∃b off l,v=.pointer (some ⟨b,off,none⟩)/\Av b/\blk w b=some l/\off+T.sz<=l.length/\vK w Av T x.1 (fX l off T.sz))/\∀q,¬F q
 |.cell _ _,_,v,F=>∃b off c E fr,v=.pointer (some ⟨b,off,none⟩)/\w.heap[b]?=some (.cells c E fr)/\off+1<=c.size/\xV fr off 1/\(∀u,c.toList[off]?=some u->u.oneCell'=true)/\∀q,F q↔q=b
 |.nil _ _,_,v,F=>v=.slice none 0 0/\∀q,¬F q
def hdA:{p:PM}->{ps:List PM}->oC (p::ps)->oC [p]
 |.val _ _,_,x=>(x.1,())
 |.mut _,_,x=>(x.1,())
 |.ref _ _,_,x=>(x.1,())
 |.fn _ _,_,x=>(x.1,())
 |.peek _,_,x=>(x.1,())
 |.cell _ _,_,_=>()
 |.nil _ _,_,_=>()
def tlA:{p:PM}->{ps:List PM}->oC (p::ps)->oC ps
 |.val _ _,_,x=>x.2
 |.mut _,_,x=>x.2
 |.ref _ _,_,x=>x.2
 |.fn _ _,_,x=>x.2
 |.peek _,_,x=>x.2
 |.cell _ _,_,x=>x
 |.nil _ _,_,x=>x
def xQ(P:Program)(w:World)(Av:Nat->Prop):(ps:List PM)->oC ps->List Value->List (Nat->Prop)->Prop
 |[],_,vs,Fs=>vs=[]/\Fs=[]
 |p::ps,x,vs,Fs=>∃v r F Gs,vs=v::r/\Fs=F::Gs/\aMR P w Av p (hdA x) v F/\xQ P w Av ps (tlA x) r Gs
def uT(w w':World)(Av':Nat->Prop):(ps:List PM)->yP ps->List Value->List (Nat->Prop)->List (Nat->Prop)->Prop
 |[],_,_,_,Gs=>Gs=[]
 |.val _ _::ps,y,vs,Fs,Gs=>uT w w' Av' ps y vs.tail Fs.tail Gs
 |.fn _ _::ps,y,vs,Fs,Gs=>uT w w' Av' ps y vs.tail Fs.tail Gs
 |.peek _::ps,y,vs,Fs,Gs=>uT w w' Av' ps y vs.tail Fs.tail Gs
 |.nil _ _::ps,y,vs,Fs,Gs=>uT w w' Av' ps y vs.tail Fs.tail Gs
 |.cell _ _::ps,y,vs,Fs,Gs=>∃b off G Gs',vs.head?=some (.pointer (some ⟨b,off,none⟩))/\Gs=G::Gs'/\w'.heap[b]?=w.heap[b]?/\(∀q,G q↔q=b)/\uT w w' Av' ps y vs.tail Fs.tail Gs'
 |.mut T::ps,y,vs,Fs,Gs=>∃v G Gs',vs.head?=some v/\Gs=G::Gs'/\(∃cs,v=cS T.isSt cs/\cs.length=T.sz/\qW w' T y.1 cs G)/\uT w w' Av' ps y.2 vs.tail Fs.tail Gs'
 |.ref T m::ps,y,vs,Fs,Gs=>∃b off G G0 Gs' c',vs.head?=some (.pointer (some ⟨b,off,none⟩))/\Gs=G::Gs'/\aCD w w' b off T.sz c'/\rdM w' Av' m T y.1 (fX c'.toList off T.sz) G0/\¬G0 b/\(∀q,G q↔(q=b\/G0 q))/\
  uT w w' Av' ps y.2 vs.tail Fs.tail Gs'
def aJi(w':World)(Av':Nat->Prop):Md->(T:Ty)->T.D->Value->(Nat->Prop)->Prop
 |.np m,T,x,v,H=>∃b off c E fr F0,v=.pointer (some ⟨b,off,none⟩)/\w'.heap[b]?=some (.cells c E fr)/\off+T.sz<=c.size/\xV fr off T.sz/\rdM w' Av' m T x (fX c.toList off T.sz) F0/\¬F0 b/\∀q,H q↔(q=b\/F0 q)
 |.f,T,x,v,H=>∃cs,v=cS T.isSt cs/\rdM w' Av' .f T x cs H
 |.o,T,x,v,H=>∃cs,v=cS T.isSt cs/\rdM w' Av' .o T x cs H
 |.pair a b,T,x,v,H=>∃cs,v=cS T.isSt cs/\rdM w' Av' (.pair a b) T x cs H
theorem aCr{w':World}{Av':Nat->Prop}{m:Md}{T:Ty}{x:T.D}{v:Value}{H:Nat->Prop}(hm:m.plain=true)(h:aJi w' Av' m T x v H):∃cs,v=cS T.isSt cs/\rdM w' Av' m T x cs H:=by
 cases m with
 |np m=>cases hm
 |f=>exact h
 |o=>exact h
 |pair a b=>exact h
def aAv(w':World)(Av':Nat->Prop):(rs:List (Ty×Md))->Res rs->List Value->List (Nat->Prop)->Prop
 |[],_,vs,Hs=>vs=[]/\Hs=[]
 |r::rs,y,vs,Hs=>∃v u H Ks,vs=v::u/\Hs=H::Ks/\aJi w' Av' r.2 r.1 y.1 v H/\aAv w' Av' rs y.2 u Ks
def aGc(vs:List Value):Value:=match vs with
 |[v]=>v
 |vs=>.tuple vs.toArray
def kE(Fs:List (Nat->Prop))(q:Nat):Prop:=∃F,F∈Fs/\F q
def oJ(Fs:List (Nat->Prop)):Prop:=Fs.Pairwise fun F G=>∀q,F q->¬G q
def aMG(w:World)(Av:Nat->Prop)(s:FS)(xs:oC s.ps)(vs:List Value)(Fs:List (Nat->Prop))(e:Ending)(w':World):Prop:=
 ∃rv Gs Hs Av',e=.returned (aGc rv)/\uT w w' Av' s.ps (s.fn xs).1 vs Fs Gs/\aAv w' Av' s.rs (s.fn xs).2 rv Hs/\oJ (Gs++Hs)/\
  (∀q,kE (Gs++Hs) q->q<w'.heap.size/\(kE Fs q\/w.heap.size<=q))/\(∀b,Av' b->b<w'.heap.size/\¬kE (Gs++Hs) b/\(Av b\/kE Fs b\/w.heap.size<=b))/\
  (∀b,b<w.heap.size->¬kE Fs b->w'.heap[b]?=w.heap[b]?)/\vF w w'
def bA(P:Program)(f:FuncId)(s:FS):Prop:=
 ∀(w:World) (Av:Nat->Prop) (vs:List Value) (xs:oC s.ps) (Fs:List (Nat->Prop)),xQ P w Av s.ps xs vs Fs->oJ Fs->(∀b,Av b->b<w.heap.size/\¬kE Fs b)->
  (∀q,kE Fs q->q<w.heap.size)->s.pre xs=true->Calls P f vs.toArray w (aMG w Av s xs vs Fs)
def aCt(w:World)(all:List Value):List PM->List Value->Prop
 |[],_=>True
 |.cell k _::ps,vs=>(∃b off l,vs.head?=some (.pointer (some ⟨b,off,none⟩))/\blk w b=some l/\l[off]?=some (all.getD k undef))/\aCt w all ps vs.tail
 |_::ps,vs=>aCt w all ps vs.tail
def Wi.val(all:List Value):Wi->Value
 |.par k=>all.getD k undef
 |.clo f ks=>.func (.func f) #[] (ks.map fun k=>all.getD k undef).toArray
def pU(P:Program)(f:FuncId)(s:FS)(real:List Wi):Prop:=
 ∀(w:World) (Av:Nat->Prop) (vs:List Value) (xs:oC s.ps) (Fs:List (Nat->Prop)),xQ P w Av s.ps xs vs Fs->oJ Fs->(∀b,Av b->b<w.heap.size/\¬kE Fs b)->
  (∀q,kE Fs q->q<w.heap.size)->aCt w vs s.ps vs->s.pre xs=true->Calls P f (real.map (Wi.val vs)).toArray w (aMG w Av s xs vs Fs)
structure aS(P:Program)(E:eI):Prop where
 ty:∀t T,E.ty t=some T->pQ P T (.t t)=true
 fs:∀f s,E.fs f=some s->bA P f s/\∃fn,P.funcs[f]?=some fn/\fn.body.isSome=true/\(fn.name== "runtime.NumGoroutine")=false
 fw:∀f g e,E.fw f g=some e->pU P f e.s e.real/\∃fn,P.funcs[f]?=some fn/\fn.body.isSome=true/\(fn.name== "runtime.NumGoroutine")=false
def M.ev{α:Type}(f:Nat->Option Obj):M α->Option α
 |.ret a=>some a
 |.fail=>none
 |.get o k=>(k (f o)).ev f
 |.chk b m=>if b=true then m.ev f else none
 |.br b m n=>if b=true then m.ev f else n.ev f
theorem aCo{α β:Type}{f:Nat->Option Obj}{g:α->M β}:(m:M α)->(m.bind g).ev f=(m.ev f).bind fun a=>(g a).ev f
 |.ret a=>rfl
 |.fail=>rfl
 |.get o k=>by simp only[M.bind,M.ev];exact aCo _
 |.chk b m=>by
  simp only[M.bind,M.ev]
  split
  . exact aCo m
  . rfl
 |.br b m n=>by
  simp only[M.bind,M.ev]
  split
  . exact aCo m
  . exact aCo n
theorem aG{α β:Type}{f:Nat->Option Obj}{g:α->M β}{m:M α}{b:β}(h:(m.bind g).ev f=some b):∃a,m.ev f=some a/\(g a).ev f=some b:=by
 rw[aCo] at h
 cases hm:m.ev f with
 |none=>rw[hm] at h;cases h
 |some a=>rw[hm] at h;exact⟨a,rfl,h⟩
theorem gM{α:Type}{f:Nat->Option Obj}{b:Bool}{m:M α}{a:α}(h:(M.chk b m).ev f=some a):b=true/\m.ev f=some a:=by
 simp only[M.ev] at h
 split at h
 . rename_i hb;exact⟨hb,h⟩
 . cases h
def M.val{α:Type}(f:Nat->Option Obj):M α->List Nat->Option (α×List Nat)
 |.ret a,L=>some (a,L)
 |.fail,_=>none
 |.get o k,L=>(k (f o)).val f (o::L)
 |.chk b m,L=>if b=true then m.val f L else none
 |.br b m n,L=>if b=true then m.val f L else n.val f L
theorem aAS{α R:Type}{objs:List (Nat×Obj)}{r:R}:(m:M α)->{L:List Nat}->{k:α->List Nat->Option R}->m.run objs L k=some r->∃a L',m.val (find objs) L=some (a,L')/\k a L'=some r
 |.ret a,L,k,h=>⟨a,L,rfl,h⟩
 |.fail,_,_,h=>by cases h
 |.get o g,L,k,h=>aAS (g (find objs o)) h
 |.chk b m,L,k,h=>by
  simp only[M.run] at h
  simp only[M.val]
  split at h
  . rename_i hb;rw[if_pos hb];exact aAS m h
  . cases h
 |.br b m n,L,k,h=>by
  simp only[M.run] at h
  simp only[M.val]
  split at h
  . rename_i hb;rw[if_pos hb];exact aAS m h
  . rename_i hb;rw[if_neg hb];exact aAS n h
theorem aCR{α:Type}{f:Nat->Option Obj}{a:α}:(m:M α)->{L L':List Nat}->m.val f L=some (a,L')->m.ev f=some a
 |.ret b,L,L',h=>by simp only[M.val,Zc,Prod.mk.injEq] at h;simp[M.ev,h.1]
 |.fail,_,_,h=>by cases h
 |.get o g,L,L',h=>aCR (g (f o)) h
 |.chk b m,L,L',h=>by
  simp only[M.val] at h;simp only[M.ev]
  split at h
  . rename_i hb;rw[if_pos hb];exact aCR m h
  . cases h
 |.br b m n,L,L',h=>by
  simp only[M.val] at h;simp only[M.ev]
  split at h
  . rename_i hb;rw[if_pos hb];exact aCR m h
  . rename_i hb;rw[if_neg hb];exact aCR n h
theorem yG{α:Type}{f g:Nat->Option Obj}{a:α}:(m:M α)->{L L':List Nat}->m.val f L=some (a,L')->(∀o∈L',g o=f o)->m.val g L=some (a,L')
 |.ret b,L,L',h,_=>h
 |.fail,_,_,h,_=>by cases h
 |.get o k,L,L',h,hg=>by
  simp only[M.val] at h ⊢
  have:o∈L':=sub (k (f o)) h o (by simp)
  rw[hg o this]
  exact yG (k (f o)) h hg
 |.chk b m,L,L',h,hg=>by
  simp only[M.val] at h ⊢
  split at h
  . rename_i hb;rw[if_pos hb];exact yG m h hg
  . cases h
 |.br b m n,L,L',h,hg=>by
  simp only[M.val] at h ⊢
  split at h
  . rename_i hb;rw[if_pos hb];exact yG m h hg
  . rename_i hb;rw[if_neg hb];exact yG n h hg
where
 sub {f:Nat->Option Obj}:(m:M α)->{L L':List Nat}->m.val f L=some (a,L')->∀o∈L,o∈L'
 |.ret b,L,L',h=>by simp only[M.val,Zc,Prod.mk.injEq] at h;rw[h.2];exact fun _ h=>h
 |.fail,_,_,h=>by cases h
 |.get o k,L,L',h=>fun q hq=>sub (k (f o)) h q (Zo _ hq)
 |.chk b m,L,L',h=>by
  simp only[M.val] at h
  split at h
  . exact sub m h
  . cases h
 |.br b m n,L,L',h=>by
  simp only[M.val] at h
  split at h
  . exact sub m h
  . exact sub n h
theorem iH.congr{cx:Cx}{φ:Nat->dJ}{ψ:Nat->Nat->Prop}{Av:Nat->Prop}{objs objs':List (Nat×Obj)}{w:World}(hf:∀o,find objs' o=find objs o)(h:iH cx φ ψ Av objs w):iH cx φ ψ Av objs' w:=by
 have hal:bH objs'=bH objs:=by funext o;unfold bH;rw[hf]
 refine⟨fun o x ho=>?_,fun o x o' x' ho ho'=>?_,fun o x ho=>?_,fun o x ho q hq=>?_,fun b hb=>?_,h.av0,h.grow,h.frame,h.pin⟩
 . rw[hf] at ho;rw[hal];exact h.reps o x ho
 . rw[hf] at ho ho';exact h.disj o x o' x' ho ho'
 . rw[hf] at ho;exact h.own o x ho
 . rw[hf] at ho ⊢;exact h.names o x ho q hq
 . obtain⟨h1,h2,h3⟩:=h.av b hb
   exact⟨h1,fun o x ho=>h2 o x (by rw[<-hf];exact ho),h3⟩
theorem kV.congr{P:Program}{φ:Nat->dJ}{Av:Nat->Prop}{slots:List SV}{objs objs':List (Nat×Obj)}{tmps:Array Value}{w:World}(hf:∀o,find objs' o=find objs o)
 (h:kV P φ Av ⟨slots,objs⟩ tmps w):kV P φ Av ⟨slots,objs'⟩ tmps w:=by
 have hal:bH objs'=bH objs:=by funext o;unfold bH;rw[hf]
 refine⟨h.size,fun t s v hs hv=>?_,fun t s hs q hq=>?_⟩
 . show s.rep P φ w Av (bH objs') v
   rw[hal];exact h.slots t s v hs hv
 . show(find objs' q).isSome=true
   rw[hf];exact h.names t s hs q hq
section kill
variable {P:Program} {φ:Nat->dJ} {w:World} {Av al:Nat->Prop} {o:List Nat}
theorem aGo{n:Nat}:{l:List Nat}->n∈l->aBt n l=true
 |m::r,h=>by
  simp only[aBt,Bool.or_eq_true,Nat.beq_eq]
  rcases List.mem_cons.1 h with h|h
  . exact .inl h.symm
  . exact .inr (aGo h)
theorem aKz(c:CT):(c.kill o).isSt=c.isSt:=by
 cases c<;>simp only[CT.kill,Zi]<;>(try split)<;>rfl
theorem tV:(c:CT)->{cs:List Value}->c.cells P φ w Av al cs->(c.kill o).cells P φ w Av al cs
 |.bor q p,cs,h=>by
  simp only[CT.kill,Zi]
  split
  . obtain⟨v,h1,h2,_⟩:=h;exact⟨v,h1,h2⟩
  . exact h
 |.eptr q p T,cs,h=>by
  simp only[CT.kill,Zi]
  split
  . obtain⟨a,h1,_⟩:=h;exact⟨_,h1,rfl⟩
  . exact h
 |.pair a b,cs,h=>by
  obtain⟨c1,c2,h1,h2,h3⟩:=h
  exact⟨c1,c2,h1,tV a h2,tV b h3⟩
 |.clo f c,cs,h=>by
  obtain⟨vs,h1,h2⟩:=h
  exact⟨vs,h1,caps c h2⟩
 |.undef,_,h=>h
 |.skip,_,h=>h
 |.nil,_,h=>h
 |.unit,_,h=>h
 |.dat _ _,_,h=>h
 |.arr _,_,h=>h
 |.sub _ _ _,_,h=>h
 |.bptr _ _ _,_,h=>h
 |.dptr _ _,_,h=>h
 |.fn _ _ _ _,_,h=>h
where
 caps:(c:CT)->{cs:List Value}->c.caps P φ w Av al cs->(c.kill o).caps P φ w Av al cs
 |.pair a b,cs,h=>by
  obtain⟨v,r,h1,⟨u,h2,h3⟩,h4⟩:=h
  exact⟨v,r,h1,⟨u,tV a h2,by rw[aKz];exact h3⟩,caps b h4⟩
 |.bor q p,cs,h=>by
  simp only[CT.kill,Zi]
  split<;>exact h
 |.eptr q p T,cs,h=>by
  simp only[CT.kill,Zi]
  split<;>exact h
 |.clo f c,cs,h=>h
 |.undef,_,h=>h
 |.skip,_,h=>h
 |.nil,_,h=>h
 |.unit,_,h=>h
 |.dat _ _,_,h=>h
 |.arr _,_,h=>h
 |.sub _ _ _,_,h=>h
 |.bptr _ _ _,_,h=>h
 |.dptr _ _,_,h=>h
 |.fn _ _ _ _,_,h=>h
theorem aIv(c:CT){v:Value}(h:c.val P φ w Av al v):(c.kill o).val P φ w Av al v:=by
 cases c with
 |undef=>exact h
 |skip=>exact h
 |bor q p=>
  obtain⟨cs,h1,h2⟩:=h
  simp only[CT.kill,Zi]
  split
  . trivial
  . exact⟨cs,h1,h2⟩
 |eptr q p T=>
  obtain⟨cs,h1,h2⟩:=h
  simp only[CT.kill,Zi]
  split
  . trivial
  . exact⟨cs,h1,h2⟩
 |pair a b=>
  obtain⟨cs,h1,h2⟩:=h
  exact⟨cs,tV _ h1,h2⟩
 |clo f c=>
  obtain⟨cs,h1,h2⟩:=h
  exact⟨cs,tV (.clo f c) h1,h2⟩
 |_=>exact h
theorem aFS:(c:CT)->{vs:List Value}->c.vals P φ w Av al vs->(c.kill o).vals P φ w Av al vs
 |.pair a b,vs,h=>by
  obtain⟨v,r,h1,h2,h3⟩:=h
  exact⟨v,r,h1,aIv a h2,aFS b h3⟩
 |.bor q p,_,h=>h.elim
 |.eptr q p T,_,h=>h.elim
 |.clo f c,_,h=>h
 |.undef,_,h=>h
 |.skip,_,h=>h
 |.nil,_,h=>h
 |.unit,_,h=>h
 |.dat _ _,_,h=>h
 |.arr _,_,h=>h
 |.sub _ _ _,_,h=>h
 |.bptr _ _ _,_,h=>h
 |.dptr _ _,_,h=>h
 |.fn _ _ _ _,_,h=>h
theorem aHT(s:SV){v:Value}(h:s.rep P φ w Av al v):(s.kill o).rep P φ w Av al v:=by
 cases s with
 |one c=>exact aIv c h
 |tup c=>obtain⟨vs,h1,h2⟩:=h;exact⟨vs,h1,aFS c h2⟩
theorem tN:(c:CT)->∀q∈(c.kill o).named,q∈c.named
 |.bor q p=>by
  simp only[CT.kill,Zi]
  split
  . intro _ h;cases h
  . exact fun _ h=>h
 |.eptr q p T=>by
  simp only[CT.kill,Zi]
  split
  . intro _ h;cases h
  . exact fun _ h=>h
 |.pair a b=>fun q hq=>by
  simp only[CT.kill,CT.named,Zp] at *
  exact hq.imp (tN a q) (tN b q)
 |.clo f c=>tN c
 |.undef=>fun _ h=>h
 |.skip=>fun _ h=>h
 |.nil=>fun _ h=>h
 |.unit=>fun _ h=>h
 |.dat _ _=>fun _ h=>h
 |.arr _=>fun _ h=>h
 |.sub _ _ _=>fun _ h=>h
 |.bptr _ _ _=>fun _ h=>h
 |.dptr _ _=>fun _ h=>h
 |.fn _ _ _ _=>fun _ h=>h
theorem vT:(c:CT)->∀q∈(c.kill o).deep,q∈c.deep/\q∉o
 |.bor q p=>by
  simp only[CT.kill,Zi]
  split
  . intro _ h;cases h
  . rename_i hne;intro r hr
    simp only[CT.deep,Zq] at hr
    subst hr;exact⟨by simp[CT.deep],fun h=>hne (aGo h)⟩
 |.eptr q p T=>by
  simp only[CT.kill,Zi]
  split
  . intro _ h;cases h
  . rename_i hne;intro r hr
    refine⟨hr,fun h=>?_⟩
    cases hs:aGG p with
    |true=>simp[CT.deep,hs] at hr
    |false=>
     simp only[CT.deep,hs,cond_false,Zq] at hr
     subst hr
     simp[aGo h,hs] at hne
 |.pair a b=>fun q hq=>by
  simp only[CT.kill,CT.deep,Zp] at *
  rcases hq with hq|hq
  . obtain⟨h1,h2⟩:=vT a q hq;exact⟨.inl h1,h2⟩
  . obtain⟨h1,h2⟩:=vT b q hq;exact⟨.inr h1,h2⟩
 |.clo f c=>vT c
 |.undef=>fun _ h=>by cases h
 |.skip=>fun _ h=>by cases h
 |.nil=>fun _ h=>by cases h
 |.unit=>fun _ h=>by cases h
 |.dat _ _=>fun _ h=>by cases h
 |.arr _=>fun _ h=>by cases h
 |.sub _ _ _=>fun _ h=>by cases h
 |.bptr _ _ _=>fun _ h=>by cases h
 |.dptr _ _=>fun _ h=>by cases h
 |.fn _ _ _ _=>fun _ h=>by cases h
theorem aCy:(c:CT)->{T:Ty}->c.fits T=true->(c.kill o).fits T=true
 |.bor q p,T,h=>by
  simp only[CT.kill,Zi]
  split
  . cases T<;>first|rfl|cases h
  . exact h
 |.eptr q p U,T,h=>by
  simp only[CT.kill,Zi]
  split
  . cases T<;>first|rfl|cases h
  . exact h
 |.pair a b,T,h=>by
  cases T with
  |pair A B=>
   simp only[CT.fits,Zb] at h
   simp only[CT.kill,CT.fits,Zb]
   exact⟨aCy a h.1,aCy b h.2⟩
  |_=>cases h
 |.clo f c,T,h=>by cases T<;>first|rfl|cases h
 |.undef,_,h=>h
 |.skip,_,h=>h
 |.nil,_,h=>h
 |.unit,_,h=>h
 |.dat _ _,_,h=>h
 |.arr _,_,h=>h
 |.sub _ _ _,_,h=>h
 |.bptr _ _ _,_,h=>h
 |.dptr _ _,_,h=>h
 |.fn _ _ _ _,_,h=>h
end kill
theorem aLg{f:Obj->Obj}{l:List (Nat×Obj)}{q:Nat}:find (l.map fun p=>(p.1,f p.2)) q=(find l q).map f:=by
 induction l with
 |nil=>rfl
 |cons p r ih=>
  simp only[List.map_cons,find,Zi]
  split
  . rfl
  . exact ih
theorem lJ{objs:List (Nat×Obj)}{o:List Nat}{q:Nat}:find (objs.map fun p=>(p.1,p.2.kill o)) q=(find objs q).map (Obj.kill o):=aLg
theorem aGn{x:Obj}{o:List Nat}{t:TypeId}{e:Ty}{xs:List e.D}:x.kill o=.arr t e xs↔x=.arr t e xs:=by
 cases x<;>simp[Obj.kill]
theorem aA5{objs:List (Nat×Obj)}{o:List Nat}:bH (objs.map fun p=>(p.1,p.2.kill o))=bH objs:=by
 funext q
 unfold bH
 rw[lJ]
 apply propext
 constructor
 . rintro⟨t,e,xs,h⟩
   cases hx:find objs q with
   |none=>rw[hx] at h;cases h
   |some x=>
    rw[hx] at h
    simp only[Option.map_some,Zc] at h
    exact⟨t,e,xs,by rw[aGn.1 h]⟩
 . rintro⟨t,e,xs,h⟩
   exact⟨t,e,xs,by rw[h];rfl⟩
theorem iH.kill{cx:Cx}{φ:Nat->dJ}{ψ:Nat->Nat->Prop}{Av:Nat->Prop}{objs:List (Nat×Obj)}{w:World}(h:iH cx φ ψ Av objs w)(o:List Nat):iH cx φ ψ Av (objs.map fun p=>(p.1,p.2.kill o)) w:=by
 have hold:∀q x,find (objs.map fun p=>(p.1,p.2.kill o)) q=some x->∃y,find objs q=some y/\x=y.kill o:=by
  intro q x hx
  rw[lJ] at hx
  cases hy:find objs q with
  |none=>rw[hy] at hx;cases hx
  |some y=>rw[hy] at hx;simp only[Option.map_some,Zc] at hx;exact⟨y,rfl,hx.symm⟩
 have hblk:∀q y b,kL φ ψ q (y.kill o) b↔kL φ ψ q y b:=by intro q y b;cases y<;>rfl
 refine⟨fun q x hx=>?_,fun q x q' x' hx hx' hne b hb=>?_,fun q x hx b hb=>?_,fun q x hx r hr=>?_,fun b hb=>?_,h.av0,h.grow,h.frame,h.pin⟩
 . obtain⟨y,hy,rfl⟩:=hold q x hx
   rw[aA5]
   have hr:=h.reps q y hy
   cases y with
   |box T c=>
    obtain⟨h1,h2,mid,h3,h4,h5⟩:=hr
    exact⟨h1,aCy c h2,mid,tV c h3,h4,h5⟩
   |arr t e xs=>exact hr
   |rng t e m xs=>exact hr
   |dead=>trivial
 . obtain⟨y,hy,rfl⟩:=hold q x hx
   obtain⟨y',hy',rfl⟩:=hold q' x' hx'
   rw[hblk] at hb ⊢
   exact h.disj q y q' y' hy hy' hne b hb
 . obtain⟨y,hy,rfl⟩:=hold q x hx
   rw[hblk] at hb
   exact h.own q y hy b hb
 . obtain⟨y,hy,rfl⟩:=hold q x hx
   rw[lJ]
   have:r∈y.named:=by
    cases y with
    |box T c=>exact tN c r hr
    |arr t e xs=>exact hr
    |rng t e m xs=>exact hr
    |dead=>exact hr
   have:=h.names q y hy r this
   cases hf:find objs r with
   |none=>rw[hf] at this;cases this
   |some z=>rfl
 . obtain⟨h1,h2,h3⟩:=h.av b hb
   refine⟨h1,fun q x hx=>?_,h3⟩
   obtain⟨y,hy,rfl⟩:=hold q x hx
   rw[hblk];exact h2 q y hy
theorem kV.kill{P:Program}{φ:Nat->dJ}{Av:Nat->Prop}{slots:List SV}{objs:List (Nat×Obj)}{tmps:Array Value}{w:World}(h:kV P φ Av ⟨slots,objs⟩ tmps w)(o:List Nat):
 kV P φ Av ⟨slots.map (SV.kill o),objs.map fun p=>(p.1,p.2.kill o)⟩ tmps w:=by
 have hold:∀(t:Nat) x,(slots.map (SV.kill o))[t]?=some x->∃y,slots[t]?=some y/\x=y.kill o:=by
  intro t x hx
  rw[List.getElem?_map] at hx
  cases hy:slots[t]? with
  |none=>rw[hy] at hx;cases hx
  |some y=>rw[hy] at hx;simp only[Option.map_some,Zc] at hx;exact⟨y,rfl,hx.symm⟩
 refine⟨by simpa using h.size,fun t x v hx hv=>?_,fun t x hx q hq=>?_⟩
 . obtain⟨y,hy,rfl⟩:=hold t x hx
   show(y.kill o).rep P φ w Av (bH _) v
   rw[aA5]
   exact aHT y (h.slots t y v hy hv)
 . obtain⟨y,hy,rfl⟩:=hold t x hx
   show(find _ q).isSome=true
   rw[lJ]
   have:q∈y.named:=by cases y<;>exact tN _ q hq
   have:=h.names t y hy q this
   change (find objs q).isSome=true at this
   cases hf:find objs q with
   |none=>rw[hf] at this;cases this
   |some z=>rfl
theorem aKV{cx:Cx}{φ:Nat->dJ}{ψ:Nat->Nat->Prop}{Av:Nat->Prop}{σ:St}{a:Act}{w':World}{e:uM}{v:Value}(dst:Option Tmp)(hd:a.defers=[])(hk:e.kill=none)
 (hO:iH cx φ ψ Av (fE σ.objs e.upd) w') (hS:kV cx.P φ Av ⟨σ.slots,fE σ.objs e.upd⟩ a.tmps w')
 (hv:e.val.rep cx.P φ w' Av (bH (fE σ.objs e.upd)) v) (hn:∀q∈e.val.named,(find (fE σ.objs e.upd) q).isSome=true):vG cx (σ.apply dst e) (a.put dst v) w':=by
 refine⟨by cases dst<;>exact hd,φ,ψ,Av,?_,?_⟩
 . simp only[St.apply,hk];exact hO
 . simp only[St.apply,hk]
   cases dst with
   |none=>exact hS
   |some d=>exact hS.put d e.val v hv hn
theorem aEt{f:SV->SV}:(l:List SV)->(d:Nat)->(s:SV)->(tF l d s).map f=tF (l.map f) d (f s)
 |[],_,_=>rfl
 |_::_,0,_=>rfl
 |a::r,d+1,s=>by simp[tF,aEt r d s]
theorem aOB{cx:Cx}{φ:Nat->dJ}{ψ:Nat->Nat->Prop}{Av:Nat->Prop}{σ:St}{a:Act}{w':World}{e:uM}{o:List Nat}{v:Value}{objs':List (Nat×Obj)}(dst:Option Tmp)(hd:a.defers=[])(hk:e.kill=some o)
 (hf:∀q,find ((fE σ.objs e.upd).map fun p=>(p.1,p.2.kill o)) q=find objs' q)
 (hO:iH cx φ ψ Av objs' w') (hS:kV cx.P φ Av ⟨σ.slots.map (SV.kill o),objs'⟩ a.tmps w')
 (hv:(e.val.kill o).rep cx.P φ w' Av (bH objs') v) (hn:∀q∈(e.val.kill o).named,(find objs' q).isSome=true):vG cx (σ.apply dst e) (a.put dst v) w':=by
 refine⟨by cases dst<;>exact hd,φ,ψ,Av,?_,?_⟩
 . simp only[St.apply,hk];exact iH.congr hf hO
 . simp only[St.apply,hk]
   cases dst with
   |none=>exact kV.congr hf hS
   |some d=>
    simp only[aEt]
    exact kV.congr hf (hS.put d (e.val.kill o) v hv hn)
end Go.Aw
