/-
 What a state of the plain machine says of the machine's frame and memory.
-/
import Derived.Test.YtdlkgkkfpfglbaaGreatAwE
namespace Go.Aw
open Go.IntKind (wrap)
open List (length)
structure dJ where
 b:Nat
 E:TypeId
 fr:Nat×Nat
 pre:List Value
 post:List Value
 T:Ty
 hdr:Value
 e:Ty
def rX(w:World):List qR->Ty->Nat->Nat->Option (Ty×Nat×Nat)
 |[],T,b,off=>some (T,b,off)
 |.f k::p,T,b,off=>match T.nth k with
  |some U=>rX w p U b (off+T.offn k)
  |none=>none
 |.i n::p,T,b,off=>match T with
  |.sl _ e=>match(blk w b).bind fun l=>l[off]? with
   |some (.slice (some ⟨b',off',none⟩) len _)=>if n<len then rX w p e b' (off'+n*e.sz) else none
   |_=>none
  |_=>none
def rC(φ:Nat->dJ)(w:World)(o:Nat):List qR->Option (Ty×Nat×Nat)
 |.i n::p=>match(φ o).hdr with
  |.slice (some ⟨b,off,none⟩) len _=>if n<len then rX w p (φ o).e b (off+n*(φ o).e.sz) else none
  |_=>none
 |_=>none
def Ty.offp:Ty->List Nat->Nat
 |_,[]=>0
 |T,n::p=>match T.nth n with
  |some U=>T.offn n+U.offp p
  |none=>0
termination_by structural _ p=>p
def CT.isSt:CT->Bool
 |.unit=>true
 |.pair _ _=>true
 |.dat T _=>T.isSt
 |_=>false
def zN(h:Value)(sz lo hi:Nat)(v:Value):Prop:=
 match h with
 |.slice (some ⟨b,off,none⟩) len cap=>lo<=hi/\hi<=len/\∃cap',hi-lo<=cap'/\lo+cap'<=cap/\
  ((v=.slice (some ⟨b,off+lo*sz,none⟩) (hi-lo) cap')\/(cap'=0/\v=.slice (some ⟨b,off,none⟩) (hi-lo) cap'))
 |.slice none 0 0=>lo=0/\hi=0/\v=h
 |_=>False
def aNz(P:Program)(w:World)(Av:Nat->Prop)(A B:Ty)(pre:A.D->Bool)(g:A.D->B.D)(v:Value):Prop:=
 ∃f caps,v=.func (.func f) #[] caps/\B.flat=true/\(∀(args:Array Value) (w:World),(callFunc f args).run P w=.ok (.enter f args) w)/\∀(w1:World) (Av1:Nat->Prop) (x:A.D) (cs:List Value),
  (∀b,Av b->w1.heap[b]?=w.heap[b]?)->(∀b,Av1 b->b<w1.heap.size)->vK w1 Av1 A x cs->pre x=true->
  Calls P f (#[cS A.isSt cs]++caps) w1 fun e w2=>∃rc,e=.returned (cS B.isSt rc)/\vK w2 qQ B (g x) rc/\
   (∀b,b<w1.heap.size->w2.heap[b]?=w1.heap[b]?)/\vF w1 w2
mutual
def CT.cells(P:Program)(φ:Nat->dJ)(w:World)(Av al:Nat->Prop):CT->List Value->Prop
 |.undef,cs=>∃v,cs=[v]/\v.oneCell'=true
 |.skip,_=>False
 |.fn A B pre g,cs=>∃v,cs=[v]/\aNz P w Av A B pre g v
 |.nil,cs=>cs=[.slice none 0 0]
 |.unit,cs=>cs=[]
 |.dat T x,cs=>vK w Av T x cs
 |.arr o,cs=>cs=[(φ o).hdr]/\(φ o).hdr.oneCell'=true
 |.sub o lo hi,cs=>∃v,cs=[v]/\zN (φ o).hdr (φ o).e.sz lo hi v
 |.bor o p,cs=>∃v,cs=[v]/\v.oneCell'=true/\(al o->∃t e b off,rC φ w o p=some (.sl t e,b,off)/\(blk w b).bind (fun l=>l[off]?)=some v)
 |.bptr o p T,cs=>(φ o).T.atn p=some T/\cs=[.pointer (some ⟨(φ o).b,(φ o).pre.length+(φ o).T.offp p,none⟩)]
 |.eptr o p T,cs=>∃a,cs=[.pointer (some a)]/\(al o\/aGG p=true->∃b off,rC φ w o p=some (T,b,off)/\a=⟨b,off,none⟩)
 |.dptr T x,cs=>∃b off l,cs=[.pointer (some ⟨b,off,none⟩)]/\Av b/\blk w b=some l/\off+T.sz<=l.length/\vK w Av T x (fX l off T.sz)
 |.clo f c,cs=>∃vs,cs=[.func (.func f) #[] vs.toArray]/\CT.caps P φ w Av al c vs
 |.pair a b,cs=>∃c1 c2,cs=c1++c2/\CT.cells P φ w Av al a c1/\CT.cells P φ w Av al b c2
def CT.caps(P:Program)(φ:Nat->dJ)(w:World)(Av al:Nat->Prop):CT->List Value->Prop
 |.pair a b,vs=>∃v r,vs=v::r/\(∃cs,CT.cells P φ w Av al a cs/\v=cS a.isSt cs)/\CT.caps P φ w Av al b r
 |_,vs=>vs=[]
end
def CT.val(P:Program)(φ:Nat->dJ)(w:World)(Av al:Nat->Prop)(c:CT)(v:Value):Prop:=
 match c with
 |.undef=>True
 |.skip=>v=Go.undef
 |c=>∃cs,c.cells P φ w Av al cs/\v=cS c.isSt cs
def CT.vals(P:Program)(φ:Nat->dJ)(w:World)(Av al:Nat->Prop):CT->List Value->Prop
 |.pair a b,vs=>∃v r,vs=v::r/\a.val P φ w Av al v/\CT.vals P φ w Av al b r
 |.unit,vs=>vs=[]
 |_,_=>False
def SV.rep(P:Program)(φ:Nat->dJ)(w:World)(Av al:Nat->Prop):SV->Value->Prop
 |.one c,v=>c.val P φ w Av al v
 |.tup c,v=>∃vs,v=.tuple vs.toArray/\c.vals P φ w Av al vs
def kL(φ:Nat->dJ)(ψ:Nat->Nat->Prop)(o:Nat):Obj->Nat->Prop
 |.box _ _,q=>q=(φ o).b
 |.arr _ _ _,q=>ψ o q
 |.rng _ _ _ _,q=>ψ o q
 |_,_=>False
def rest(h:Value)(k sz:Nat):Value:=match h with
 |.slice (some ⟨b,off,none⟩) len cap=>.slice (some ⟨b,off+k*sz,none⟩) (len-k) (cap-k)
 |h=>h
def aLf(h:Value)(m:Nat):Prop:=m<=maxLen/\((∃b off cap,h=.slice (some ⟨b,off,none⟩) m cap)\/(h=.slice none 0 0/\m=0))
def Obj.rep(P:Program)(φ:Nat->dJ)(ψ:Nat->Nat->Prop)(w:World)(Av al:Nat->Prop)(o:Nat):Obj->Prop
 |.box T c=>(φ o).T=T/\c.fits T=true/\∃mid,c.cells P φ w Av al mid/\
  w.heap[(φ o).b]?=some (.cells ((φ o).pre++mid++(φ o).post).toArray (φ o).E (φ o).fr)/\xV (φ o).fr (φ o).pre.length T.sz
 |.arr t e xs=>(φ o).e=e/\qW w (.sl t e) xs [(φ o).hdr] (ψ o)
 |.rng t e m xs=>(φ o).e=e/\aLf (φ o).hdr m/\(length (α:=e.D) xs<=m/\qW w (.sl t e) xs [rest (φ o).hdr (m-length (α:=e.D) xs) e.sz] (ψ o))
 |.dead=>True
def bH(objs:List (Nat×Obj))(o:Nat):Prop:=∃t e xs,find objs o=some (.arr t e xs)
structure Cx where
 P:Program
 w0:World
 Av0:Nat->Prop
 fp0:Nat->Prop
 pin:List Nat
 φ0:Nat->dJ
structure iH(cx:Cx)(φ:Nat->dJ)(ψ:Nat->Nat->Prop)(Av:Nat->Prop)(objs:List (Nat×Obj))(w:World):Prop where
 reps:∀o x,find objs o=some x->x.rep cx.P φ ψ w Av (bH objs) o
 disj:∀o x o' x',find objs o=some x->find objs o'=some x'->o≠o'->∀b,kL φ ψ o x b->¬kL φ ψ o' x' b
 own:∀o x,find objs o=some x->∀b,kL φ ψ o x b->b<w.heap.size/\(cx.fp0 b\/cx.w0.heap.size<=b)
 names:∀o x,find objs o=some x->∀q∈x.named,(find objs q).isSome=true
 av:∀b,Av b->b<w.heap.size/\(∀o x,find objs o=some x->¬kL φ ψ o x b)/\(cx.Av0 b\/cx.w0.heap.size<=b\/cx.fp0 b)
 av0:∀b,cx.Av0 b->Av b
 grow:vF cx.w0 w
 frame:∀b,b<cx.w0.heap.size->¬cx.fp0 b->w.heap[b]?=cx.w0.heap[b]?
 pin:∀o∈cx.pin,φ o=cx.φ0 o/\10000000<=o/\(o<20000000\/40000000<=o)
structure kV(P:Program)(φ:Nat->dJ)(Av:Nat->Prop)(σ:St)(tmps:Array Value)(w:World):Prop where
 size:tmps.size=σ.slots.length
 slots:∀(t:Nat) s v,σ.slots[t]?=some s->tmps[t]?=some v->s.rep P φ w Av (bH σ.objs) v
 names:∀(t:Nat) s,σ.slots[t]?=some s->∀q∈s.named,(find σ.objs q).isSome=true
def vG(cx:Cx)(σ:St)(a:Act)(w:World):Prop:=
 a.defers=[]/\∃φ ψ Av,iH cx φ ψ Av σ.objs w/\kV cx.P φ Av σ a.tmps w
def CT.deep:CT->List Nat
 |.bor o _=>[o]
 |.eptr o p _=>bif aGG p then[] else[o]
 |.clo _ c=>c.deep
 |.pair a b=>a.deep++b.deep
 |_=>[]
theorem nS:(c:CT)->∀o∈c.deep,o∈c.named
 |.bor _ _,o,h=>h
 |.eptr q p T,o,h=>by
  simp only[CT.deep,Zi] at h
  split at h
  . cases h
  . exact h
 |.clo _ c,o,h=>nS c o h
 |.pair a b,o,h=>by
  simp only[CT.deep,CT.named,Zp] at *
  exact h.imp (nS a o) (nS b o)
 |.undef,_,h=>h
 |.skip,_,h=>h
 |.nil,_,h=>h
 |.unit,_,h=>h
 |.dat _ _,_,h=>h
 |.arr _,_,h=>by cases h
 |.sub _ _ _,_,h=>by cases h
 |.bptr _ _ _,_,h=>by cases h
 |.dptr _ _,_,h=>h
 |.fn _ _ _ _,_,h=>h
def oE(φ:Nat->dJ)(w:World)(φ':Nat->dJ)(w':World)(o:Nat):Prop:=
 ∀p U b off,rC φ w o p=some (U,b,off)->rC φ' w' o p=some (U,b,off)/\
  ∀t e,U=.sl t e->(blk w' b).bind (fun l=>l[off]?)=(blk w b).bind (fun l=>l[off]?)
theorem aNs{w w':World}:(p:List qR)->p.all isF=true->{T:Ty}->{b off:Nat}->rX w' p T b off=rX w p T b off
 |[],_,_,_,_=>rfl
 |.f k::p,h,T,b,off=>by
  simp only[List.all_cons,Zb] at h
  simp only[rX]
  split
  . exact aNs p h.2
  . rfl
 |.i n::p,h,_,_,_=>by simp[isF] at h
theorem aKa{φ φ':Nat->dJ}{w w':World}{o:Nat}{p:List qR}(h:aGG p=true)(hφ:φ' o=φ o):rC φ' w' o p=rC φ w o p:=by
 cases p with
 |nil=>rfl
 |cons s p=>
  cases s with
  |f k=>rfl
  |i n=>
   simp only[rC,hφ]
   split
   . split
     . exact aNs p h
     . rfl
   . rfl
theorem aKv{p:List qR}{k:Nat}(h:aGG (p++[.f k])=true):aGG p=true:=by
 cases p with
 |nil=>cases h
 |cons s p=>
  cases s with
  |f k=>cases h
  |i n=>
   simp only[List.cons_append,aGG,List.all_append,Zb] at h ⊢
   exact h.1
section agr
variable {P:Program} {φ φ':Nat->dJ} {w w':World} {Av Av' al al':Nat->Prop}
theorem lK(hA:∀b,Av b->Av' b)(hw:∀b,Av b->w'.heap[b]?=w.heap[b]?):
 (c:CT)->(∀o∈c.named,φ' o=φ o)->(∀o∈c.deep,al' o->al o/\oE φ w φ' w' o)->{cs:List Value}->c.cells P φ w Av al cs->c.cells P φ' w' Av' al' cs
 |.undef,_,_,_,h=>h
 |.skip,_,_,_,h=>h.elim
 |.fn _ _ _ _,_,_,_,h=>by
  obtain⟨v,h1,f,caps,h2,h3,h6,h4⟩:=h
  exact⟨v,h1,f,caps,h2,h3,h6,fun w1 Av1 x cs h5=>h4 w1 Av1 x cs fun b hb=>(h5 b (hA b hb)).trans (hw b hb)⟩
 |.nil,_,_,_,h=>h
 |.unit,_,_,_,h=>h
 |.dat T x,_,_,_,h=>lG hA hw T h
 |.arr o,hφ,_,_,h=>by
  have:=hφ o (by simp[CT.named])
  simp only[CT.cells] at *;rw[this];exact h
 |.sub o lo hi,hφ,_,_,h=>by
  have:=hφ o (by simp[CT.named])
  simp only[CT.cells] at *;rw[this];exact h
 |.bor o p,hφ,hd,_,h=>by
  obtain⟨v,hv,h1,h2⟩:=h
  refine⟨v,hv,h1,fun ha=>?_⟩
  obtain⟨ha',hs⟩:=hd o (by simp[CT.deep]) ha
  obtain⟨t,e,b,off,h3,h4⟩:=h2 ha'
  obtain⟨h5,h6⟩:=hs _ _ _ _ h3
  exact⟨t,e,b,off,h5,(h6 t e rfl).trans h4⟩
 |.bptr o p T,hφ,_,_,h=>by
  have:=hφ o (by simp[CT.named])
  simp only[CT.cells] at *;rw[this];exact h
 |.eptr o p T,hφ,hd,_,h=>by
  obtain⟨a,hv,h2⟩:=h
  refine⟨a,hv,fun ha=>?_⟩
  cases hsh:aGG p with
  |true=>
   obtain⟨b,off,h3,h4⟩:=h2 (.inr hsh)
   exact⟨b,off,(aKa hsh (hφ o (by simp[CT.named]))).trans h3,h4⟩
  |false=>
   obtain⟨ha',hs⟩:=hd o (by simp[CT.deep,hsh]) (ha.resolve_right (by rw[hsh];simp))
   obtain⟨b,off,h3,h4⟩:=h2 (.inl ha')
   exact⟨b,off,(hs _ _ _ _ h3).1,h4⟩
 |.dptr T x,_,_,_,h=>by
  obtain⟨b,off,l,h1,h2,h3,h4,h5⟩:=h
  exact⟨b,off,l,h1,hA b h2,(vV (hw b h2)).trans h3,h4,lG hA hw T h5⟩
 |.clo f c,hφ,hd,_,h=>by
  obtain⟨vs,h1,h2⟩:=h
  exact⟨vs,h1,caps_agr hA hw c hφ hd h2⟩
 |.pair a b,hφ,hd,_,h=>by
  obtain⟨c1,c2,h1,h2,h3⟩:=h
  exact⟨c1,c2,h1,lK hA hw a (fun o ho=>hφ o (by simp[CT.named,ho])) (fun o ho=>hd o (by simp[CT.deep,ho])) h2,
   lK hA hw b (fun o ho=>hφ o (by simp[CT.named,ho])) (fun o ho=>hd o (by simp[CT.deep,ho])) h3⟩
where
 caps_agr (hA:∀b,Av b->Av' b) (hw:∀b,Av b->w'.heap[b]?=w.heap[b]?):
  (c:CT)->(∀o∈c.named,φ' o=φ o)->(∀o∈c.deep,al' o->al o/\oE φ w φ' w' o)->{cs:List Value}->c.caps P φ w Av al cs->c.caps P φ' w' Av' al' cs
 |.pair a b,hφ,hd,_,h=>by
  obtain⟨v,r,h1,⟨cs,h2,h3⟩,h4⟩:=h
  exact⟨v,r,h1,⟨cs,lK hA hw a (fun o ho=>hφ o (by simp[CT.named,ho])) (fun o ho=>hd o (by simp[CT.deep,ho])) h2,h3⟩,
   caps_agr hA hw b (fun o ho=>hφ o (by simp[CT.named,ho])) (fun o ho=>hd o (by simp[CT.deep,ho])) h4⟩
 |.undef,_,_,_,h=>h
 |.skip,_,_,_,h=>h
 |.fn _ _ _ _,_,_,_,h=>h
 |.nil,_,_,_,h=>h
 |.unit,_,_,_,h=>h
 |.dat _ _,_,_,_,h=>h
 |.arr _,_,_,_,h=>h
 |.sub _ _ _,_,_,_,h=>h
 |.bor _ _,_,_,_,h=>h
 |.bptr _ _ _,_,_,_,h=>h
 |.eptr _ _ _,_,_,_,h=>h
 |.dptr _ _,_,_,_,h=>h
 |.clo _ _,_,_,_,h=>h
theorem aJQ(hA:∀b,Av b->Av' b)(hw:∀b,Av b->w'.heap[b]?=w.heap[b]?)
 (c:CT) (hφ:∀o∈c.named,φ' o=φ o) (hd:∀o∈c.deep,al' o->al o/\oE φ w φ' w' o) {v:Value} (h:c.val P φ w Av al v):c.val P φ' w' Av' al' v:=by
 cases c<;>first|exact h|(obtain⟨cs,h1,h2⟩:=h;exact⟨cs,lK hA hw _ hφ hd h1,h2⟩)
theorem aI0(hA:∀b,Av b->Av' b)(hw:∀b,Av b->w'.heap[b]?=w.heap[b]?):
 (c:CT)->(∀o∈c.named,φ' o=φ o)->(∀o∈c.deep,al' o->al o/\oE φ w φ' w' o)->{vs:List Value}->c.vals P φ w Av al vs->c.vals P φ' w' Av' al' vs
 |.pair a b,hφ,hd,_,h=>by
  obtain⟨v,r,h1,h2,h3⟩:=h
  exact⟨v,r,h1,aJQ hA hw a (fun o ho=>hφ o (by simp[CT.named,ho])) (fun o ho=>hd o (by simp[CT.deep,ho])) h2,
   aI0 hA hw b (fun o ho=>hφ o (by simp[CT.named,ho])) (fun o ho=>hd o (by simp[CT.deep,ho])) h3⟩
 |.unit,_,_,_,h=>h
 |.undef,_,_,_,h=>h
 |.skip,_,_,_,h=>h
 |.fn _ _ _ _,_,_,_,h=>h
 |.nil,_,_,_,h=>h
 |.dat _ _,_,_,_,h=>h
 |.arr _,_,_,_,h=>h
 |.sub _ _ _,_,_,_,h=>h
 |.bor _ _,_,_,_,h=>h
 |.bptr _ _ _,_,_,_,h=>h
 |.eptr _ _ _,_,_,_,h=>h
 |.dptr _ _,_,_,_,h=>h
 |.clo _ _,_,_,_,h=>h
def SV.deep:SV->List Nat
 |.one c=>c.deep
 |.tup c=>c.deep
theorem aBS(hA:∀b,Av b->Av' b)(hw:∀b,Av b->w'.heap[b]?=w.heap[b]?)
 (s:SV) (hφ:∀o∈s.named,φ' o=φ o) (hd:∀o∈s.deep,al' o->al o/\oE φ w φ' w' o) {v:Value} (h:s.rep P φ w Av al v):s.rep P φ' w' Av' al' v:=by
 cases s with
 |one c=>exact aJQ hA hw c hφ hd h
 |tup c=>
  obtain⟨vs,h1,h2⟩:=h
  exact⟨vs,h1,aI0 hA hw c hφ hd h2⟩
def Obj.deep:Obj->List Nat
 |.box _ c=>c.deep
 |_=>[]
theorem aEI{ψ ψ':Nat->Nat->Prop}(hA:∀b,Av b->Av' b)(hw:∀b,Av b->w'.heap[b]?=w.heap[b]?){o:Nat}(hφo:φ' o=φ o)(hψo:ψ' o=ψ o)
 (x:Obj) (hφ:∀q∈x.named,φ' q=φ q) (hd:∀q∈x.deep,al' q->al q/\oE φ w φ' w' q) (hb:∀b,kL φ ψ o x b->w'.heap[b]?=w.heap[b]?)
 (h:x.rep P φ ψ w Av al o):x.rep P φ' ψ' w' Av' al' o:=by
 cases x with
 |box T c=>
  obtain⟨h1,h2,mid,h3,h4,h5⟩:=h
  simp only[Obj.rep]
  rw[hφo]
  exact⟨h1,h2,mid,lK hA hw c hφ hd h3,(hb _ rfl).trans h4,h5⟩
 |arr t e xs=>
  obtain⟨h1,h2⟩:=h
  simp only[Obj.rep]
  rw[hφo,hψo]
  exact⟨h1,sO _ (fun b hb'=>hb b hb') h2⟩
 |rng t e m xs=>
  obtain⟨h1,h0,h3,h2⟩:=h
  simp only[Obj.rep]
  rw[hφo,hψo]
  exact⟨h1,h0,h3,sO _ (fun b hb'=>hb b hb') h2⟩
 |dead=>trivial
end agr
theorem aDA(T:Ty)(x:T.D):T.get [] x=⟨T,x⟩:=by cases T<;>rfl
theorem aOj{T U:Ty}{k:Nat}{x:T.D}{y:U.D}(h:T.get [.f k] x=⟨U,y⟩)(hn:T.nth k=some U)(p:List qR):T.get (.f k::p) x=U.get p y:=by
 induction T generalizing k with
 |pair a b iha ihb=>
  cases k with
  |zero=>
   simp only[Ty.nth,Zc] at hn;subst hn
   simp only[Ty.get,aDA] at h ⊢
   cases h;rfl
  |succ k=>
   simp only[Ty.nth] at hn
   simp only[Ty.get] at h ⊢
   exact ihb h hn
 |int k=>cases hn
 |bool=>cases hn
 |str=>cases hn
 |op=>cases hn
 |sl t e=>cases hn
 |unit=>cases hn
theorem aMm(T:Ty)(x y:T.D):T.set [] x ⟨T,y⟩=y:=by
 cases T<;>simp[Ty.set]
theorem aIQ{T U:Ty}{k:Nat}(hn:T.nth k=some U){w:World}{x:T.D}{l:List Value}{off:Nat}{F:Nat->Prop}(h:qW w T x (fX l off T.sz) F)(hl:off+T.sz<=l.length):
 ∃y F',T.get [.f k] x=⟨U,y⟩/\qW w U y (fX l (off+T.offn k) U.sz) F'/\(∀q,F' q->F q)/\
  ∀(w':World) (l':List Value) (y':U.D) (G:Nat->Prop) (p:List qR) (d:Dat),U.set p y d=y'->qW w' U y' (fX l' (off+T.offn k) U.sz) G->
   (∀j,off<=j->j<off+T.sz->(j<off+T.offn k\/off+T.offn k+U.sz<=j)->l'[j]?=l[j]?)->(∀q,F q->¬F' q->w'.heap[q]?=w.heap[q]?)->(∀q,G q->F q->F' q)->
   qW w' T (T.set (.f k::p) x d) (fX l' off T.sz) (fun q=>(F q/\¬F' q)\/G q):=by
 induction T generalizing k off F with
 |pair a b iha ihb=>
  obtain⟨c1,c2,F1,F2,hc,hF,hd,h1,h2⟩:=h
  have hl1:=nL a h1
  have hl2:=nL b h2
  simp only[Ty.sz] at hc hl
  rw[rY] at hc
  obtain⟨e1,e2⟩:=List.append_inj hc (by rw[hl1];exact oB (by omega))
  subst e1;subst e2
  cases k with
  |zero=>
   simp only[Ty.nth,Zc] at hn;subst hn
   refine⟨x.1,F1,aDA _ _,by simpa [Ty.offn] using h1,fun q hq=>(hF q).2 (.inl hq),?_⟩
   intro w' l' y' G p d hset hy hsame hw hG
   simp only[Ty.sz,Ty.set,hset]
   simp only[Ty.offn,Nat.add_zero] at hy hsame
   rw[rY]
   have e2:fX l' (off+a.sz) b.sz=fX l (off+a.sz) b.sz:=by
    unfold fX
    apply List.ext_getElem?
    intro j
    rcases Nat.lt_or_ge j b.sz with hj|hj
    . rw[List.getElem?_take_of_lt hj,List.getElem?_take_of_lt hj,List.getElem?_drop,List.getElem?_drop]
      exact hsame _ (by omega) (by simp only[Ty.sz];omega) (.inr (by omega))
    . rw[List.getElem?_take_eq_none hj,List.getElem?_take_eq_none hj]
   refine⟨_,_,G,F2,rfl,fun q=>?_,fun q hq hq2=>hd q (hG q hq ((hF q).2 (.inr hq2))) hq2,hy,?_⟩
   . constructor
     . rintro(⟨h3,h4⟩|h3)
       . exact .inr (((hF q).1 h3).resolve_left h4)
       . exact .inl h3
     . rintro(h3|h3)
       . exact .inr h3
       . exact .inl ⟨(hF q).2 (.inr h3),fun h4=>hd q h4 h3⟩
   . rw[e2]
     exact sO b (fun q hq=>hw q ((hF q).2 (.inr hq)) (fun h4=>hd q h4 hq)) h2
  |succ k=>
   simp only[Ty.nth] at hn
   obtain⟨y,F',h3,h4,h5,h6⟩:=ihb hn h2 (by omega)
   refine⟨y,F',h3,by simpa [Ty.offn,Nat.add_assoc] using h4,fun q hq=>(hF q).2 (.inr (h5 q hq)),?_⟩
   intro w' l' y' G p d hset hy hsame hw hG
   have hle:=aCJ b hn
   simp only[Ty.sz,Ty.set]
   simp only[Ty.offn] at hy hsame
   rw[rY]
   have e1:fX l' off a.sz=fX l off a.sz:=by
    unfold fX
    apply List.ext_getElem?
    intro j
    rcases Nat.lt_or_ge j a.sz with hj|hj
    . rw[List.getElem?_take_of_lt hj,List.getElem?_take_of_lt hj,List.getElem?_drop,List.getElem?_drop]
      exact hsame _ (by omega) (by simp only[Ty.sz];omega) (.inl (by omega))
    . rw[List.getElem?_take_eq_none hj,List.getElem?_take_eq_none hj]
   have key:=h6 w' l' y' G p d hset (by rw[Nat.add_assoc];exact hy)
    (fun j h1 h2 h3=>hsame j (by omega) (by simp only[Ty.sz];omega) (by omega))
    (fun q hq hq'=>hw q ((hF q).2 (.inr hq)) hq') (fun q hq hq'=>hG q hq ((hF q).2 (.inr hq')))
   refine⟨_,_,F1,_,rfl,fun q=>?_,?_,?_,key⟩
   . constructor
     . rintro(⟨h7,h8⟩|h7)
       . rcases(hF q).1 h7 with h9|h9
         . exact .inl h9
         . exact .inr (.inl ⟨h9,h8⟩)
       . exact .inr (.inr h7)
     . rintro(h7|⟨h7,h8⟩|h7)
       . exact .inl ⟨(hF q).2 (.inl h7),fun h8=>hd q h7 (h5 q h8)⟩
       . exact .inl ⟨(hF q).2 (.inr h7),h8⟩
       . exact .inr h7
   . rintro q hq (⟨h7,_⟩|h7)
     . exact hd q hq h7
     . exact hd q hq (h5 q (hG q h7 ((hF q).2 (.inl hq))))
   . rw[e1]
     exact sO a (fun q hq=>hw q ((hF q).2 (.inl hq)) (fun h4=>hd q hq (h5 q h4))) h1
 |int k=>cases hn
 |bool=>cases hn
 |str=>cases hn
 |op=>cases hn
 |sl t e=>cases hn
 |unit=>cases hn
end Go.Aw
