/-
 The plain machine: regions, loops, functions.
-/
import Derived.Test.YtdlkgkkfpfglbaaGreatAwB
namespace Go.Aw
open Go.IntKind (wrap)
open List (length)
def tF{α:Type}:List α->Nat->α->List α
 |[],_,_=>[]
 |_::r,0,a=>a::r
 |b::r,n+1,a=>b::tF r n a
def pX:List SV->Nat->SV
 |[],_=>.one .undef
 |a::_,0=>a
 |_::r,n+1=>pX r n
def aJw:Value->SV
 |.bool b=>.one (.dat .bool b)
 |.int k n=>bif decide (k.min<=n)&&decide (n<=k.max) then .one (.dat (.int k) n) else .one .undef
 |.string s=>bif decide (s.data.toList.length<=lT) then .one (.dat .str s.data.toList) else .one .undef
 |.slice none 0 0=>.one .nil
 |_=>.one .undef
def St.at(σ:St):Operand->SV
 |.tmp t=>pX σ.slots t
 |.const v=>aJw v
 |.func f=>.one (.clo f .unit)
 |_=>.one .undef
def aBt(n:Nat):List Nat->Bool
 |[]=>false
 |m::r=>Nat.beq m n||aBt n r
def isF:qR->Bool
 |.f _=>true
 |.i _=>false
def aGG:List qR->Bool
 |.i _::p=>p.all isF
 |_=>false
def CT.kill(o:List Nat):CT->CT
 |.bor q p=>bif aBt q o then .undef else .bor q p
 |.eptr q p T=>bif aBt q o&&!aGG p then .undef else .eptr q p T
 |.pair a b=>.pair (a.kill o) (b.kill o)
 |.clo f c=>.clo f (c.kill o)
 |c=>c
def SV.kill(o:List Nat):SV->SV
 |.one c=>.one (c.kill o)
 |.tup c=>.tup (c.kill o)
def Obj.kill(o:List Nat):Obj->Obj
 |.box T c=>.box T (c.kill o)
 |x=>x
def fE:List (Nat×Obj)->List (Nat×Obj)->List (Nat×Obj)
 |l,[]=>l
 |l,(o,x)::r=>fE (put l o x) r
def St.apply(σ:St)(dst:Option Tmp)(e:uM):St:=
 let objs:=fE σ.objs e.upd
 let slots:=match dst with
  |some d=>tF σ.slots d e.val
  |none=>σ.slots
 match e.kill with
 |none=>⟨slots,objs⟩
 |some o=>⟨slots.map (SV.kill o),objs.map fun p=>(p.1,p.2.kill o)⟩
structure iT where
 i:Nat
 reads:List Nat
 upd:List Nat
 kill:Bool
def M.run{α R:Type}(objs:List (Nat×Obj)):M α->List Nat->(α->List Nat->Option R)->Option R
 |.ret a,L,k=>k a L
 |.fail,_,_=>none
 |.get o f,L,k=>(f (find objs o)).run objs (o::L) k
 |.chk b m,L,k=>if b=true then m.run objs L k else none
 |.br b m n,L,k=>if b=true then m.run objs L k else n.run objs L k
inductive Ex where
 |normal|exit (id:Nat)|ret
abbrev Kt(R:Type):=Ex->St->Option R
def rQ(ops:List Oper)(σ:St)(o:Oper):Option (Option (Bool×Bool×Tmp)):=
 match o.guard with
 |none=>some none
 |some (g,want)=>match ops[g]? with
  |some p=>match p.dst with
   |some d=>match pX σ.slots d with
    |.one (.dat .bool x)=>some (some (x,want,d))
    |.one .skip=>some (some (!want,want,d))
    |_=>none
   |none=>none
  |none=>none
def aAJ:SV->Bool
 |.one .skip=>true
 |_=>false
def aIV{R:Type}(E:eI)(ops:List Oper)(base:Nat):List Oper->Nat->St->List iT->(St->List iT->Option R)->Option R
 |[],_,σ,L,k=>k σ L
 |o::rest,i,σ,L,k=>
  let one (σ:St):Option R:=(opM E (base+i*32) o σ.at).run σ.objs [] fun e l=>
   aIV E ops base rest (i+1) (σ.apply o.dst e) (⟨i,l,e.upd.map (·.1),e.kill.isSome⟩::L) k
  let no (σ:St):Option R:=aIV E ops base rest (i+1) (σ.apply o.dst ⟨.one .skip,[],none⟩) (⟨i,[],[],false⟩::L) k
  match rQ ops σ o with
  |none=>none
  |some none=>one σ
  |some (some (x,want,d))=>
   bif aAJ (pX σ.slots d) then no σ
   else bif want then(if x=true then one ⟨tF σ.slots d (.one (.dat .bool true)),σ.objs⟩ else no ⟨tF σ.slots d (.one (.dat .bool false)),σ.objs⟩)
   else(if x=true then no ⟨tF σ.slots d (.one (.dat .bool true)),σ.objs⟩ else one ⟨tF σ.slots d (.one (.dat .bool false)),σ.objs⟩)
def aAf(ops:List Oper)(o:Oper):List Tmp:=
 (o.op.operands.toList.filterMap fun|.tmp t=>some t|_=>none)++
 (match o.guard with
  |some (g,_)=>match ops[g]? with
   |some p=>p.dst.toList
   |none=>[]
  |none=>[])
def aCi(a b:List Nat):Bool:=a.any fun n=>aBt n b
def aBd(m j:Nat):Bool:=Nat.beq (Nat.land (Nat.shiftRight m j) 1) 1
def oT(ops:List Oper):List Nat:=
 (ops.foldl (init:=([]:List Nat)) fun acc o=>
  acc++[o.after.toList.foldl (init:=0) fun s e=>bif Region.binds .any e then Nat.lor (Nat.lor (Nat.shiftLeft 1 e.on) (acc.getD e.on 0)) s else s])
def aGa(ops:List Oper)(x y:Oper):Bool:=
 !aCi x.dst.toList (aAf ops y)&&!aCi y.dst.toList (aAf ops x)&&!aCi x.dst.toList y.dst.toList
def aEj(x y:iT):Bool:=
 !x.kill&&!y.kill&&!aCi x.upd (y.reads++y.upd)&&!aCi y.upd x.reads
def aCc(ops:List Oper):Bool:=
 (ops.zipIdx).all fun p=>p.1.after.toList.all fun e=>!Region.binds .any e||Nat.blt e.on p.2
def aHb(ops:List Oper)(L:List iT):Bool:=
 let b:=oT ops
 aCc ops&&L.all fun y=>L.all fun x=>
  !Nat.blt x.i y.i||aBd (b.getD y.i 0) x.i||
   (match ops[x.i]?,ops[y.i]? with
    |some p,some q=>aGa ops p q&&aEj x y
    |_,_=>false)
structure aN1 where
 key:Nat
 keep:List Nat
 own:List (Nat×TypeId×Ty)
 take:List Nat:=[]
def CT.named:CT->List Nat
 |.arr o=>[o]
 |.sub o _ _=>[o]
 |.bor o _=>[o]
 |.bptr o _ _=>[o]
 |.eptr o _ _=>[o]
 |.clo _ c=>c.named
 |.pair a b=>a.named++b.named
 |_=>[]
def SV.named:SV->List Nat
 |.one c=>c.named
 |.tup c=>c.named
def CT.ren(π:List (Nat×Nat)):CT->CT
 |.arr o=>match find π o with|some q=>.arr q|none=>.undef
 |.sub o l h=>match find π o with|some q=>.sub q l h|none=>.undef
 |.bor o p=>match find π o with|some q=>.bor q p|none=>.undef
 |.bptr o p T=>match find π o with|some q=>.bptr q p T|none=>.undef
 |.eptr o p T=>match find π o with|some q=>.eptr q p T|none=>.undef
 |.clo f c=>.clo f (c.ren π)
 |.pair a b=>.pair (a.ren π) (b.ren π)
 |c=>c
def SV.ren(π:List (Nat×Nat)):SV->SV
 |.one c=>.one (c.ren π)
 |.tup c=>.tup (c.ren π)
def Obj.ren(π:List (Nat×Nat)):Obj->Obj
 |.box T c=>.box T (c.ren π)
 |x=>x
def CT.pack:CT->CT
 |.pair a b=>match a.pack,b.pack with
  |.dat A x,.dat B y=>.dat (.pair A B) (x,y)
  |.dat A x,.unit=>.dat (.pair A .unit) (x,())
  |c,d=>.pair c d
 |c=>c
def Obj.named:Obj->List Nat
 |.box _ c=>c.named
 |_=>[]
def iR(n:Nat):CT->Ty->CT×List (Nat×Obj)×Nat
 |.nil,.sl t e=>(.arr n,[(n,.arr t e [])],n+1)
 |.pair a b,.pair A B=>
  match iR n a A with
  |(c,l,n')=>match iR n' b B with
   |(d,r,n'')=>(.pair c d,l++r,n'')
 |c,_=>(c,[],n)
def kU(n:Nat):List (Nat×Obj)->List (Nat×Obj)×List (Nat×Obj)×Nat
 |[]=>([],[],n)
 |(o,.box T c)::r=>
  match iR n c T with
  |(d,l,n')=>match kU n' r with
   |(r',l',n'')=>((o,.box T d.pack)::r',l++l',n'')
 |(o,x)::r=>match kU n r with
  |(r',l',n')=>((o,x)::r',l',n')
def sA(n:Nat)(own:List (Nat×TypeId×Ty)):List SV->Nat->List SV×List (Nat×Obj)×Nat
 |[],_=>([],[],n)
 |.one .nil::r,i=>match find own i with
  |some (t,e)=>match sA (n+1) own r (i+1) with
   |(r',l,n')=>(.one (.arr n)::r',(n,.arr t e [])::l,n')
  |none=>match sA n own r (i+1) with
   |(r',l,n')=>(.one .nil::r',l,n')
 |.one c::r,i=>match sA n own r (i+1) with
  |(r',l,n')=>(.one c.pack::r',l,n')
 |s::r,i=>match sA n own r (i+1) with
  |(r',l,n')=>(s::r',l,n')
def oX(keep:List Nat):List SV->Nat->List SV
 |[],_=>[]
 |s::r,i=>(bif aBt i keep then s else .one .undef)::oX keep r (i+1)
def aHX(objs:List (Nat×Obj)):Nat->List Nat->List Nat->List Nat
 |0,_,acc=>acc.reverse
 |_,[],acc=>acc.reverse
 |n+1,o::todo,acc=>bif aBt o acc then aHX objs n todo acc else
  match find objs o with
  |some .dead=>aHX objs n todo acc
  |some x=>aHX objs n (x.named++todo) (o::acc)
  |none=>aHX objs n todo acc
def aOG:Option Obj->Bool
 |some (.box _ _)=>false
 |_=>true
def aLH(objs:List (Nat×Obj)):List Nat->Nat->List (Nat×Nat)
 |[],_=>[]
 |o::r,n=>bif aOG (find objs o)&&Nat.blt o 40000000 then(o,n)::aLH objs r (n+1) else(o,o)::aLH objs r n
def rH(objs:List (Nat×Obj))(π:List (Nat×Nat)):List (Nat×Nat)->List (Nat×Obj)
 |[]=>[]
 |(o,q)::r=>match find objs o with
  |some x=>(q,x.ren π)::rH objs π r
  |none=>rH objs π r
def St.keepOnly(σ:St)(keep:List Nat):St:=⟨oX keep σ.slots 0,σ.objs⟩
def St.fill(σ:St)(own:List (Nat×TypeId×Ty))(n:Nat):St:=
 match sA n own σ.slots 0 with
 |(s,l,n')=>match kU n' σ.objs with
  |(os,l',n'')=>bif Nat.ble 20000000 n&&Nat.ble n'' 40000000&&(l++l').all (fun p=>match find σ.objs p.1 with|none=>true|some _=>false) then⟨s,os++(l++l')⟩ else σ
def aL9(objs:List (Nat×Obj))(π:List (Nat×Nat)):Bool:=
 uW (π.map (·.1))&&uW (π.map (·.2))&&π.all fun p=>(find objs p.1).isSome&&(Nat.beq p.1 p.2||(Nat.ble 20000000 p.2&&Nat.blt p.2 40000000))
def St.order(σ:St):St:=
 let ids:=aHX σ.objs 1000 (σ.slots.flatMap SV.named) []
 let π:=aLH σ.objs ids 20000000
 bif aL9 σ.objs π then⟨σ.slots.map (SV.ren π),rH σ.objs π π⟩ else σ
def aCg(take:List Nat):List SV->Nat->List Nat
 |[],_=>[]
 |.one (.arr o)::r,i=>bif aBt i take then o::aCg take r (i+1) else aCg take r (i+1)
 |_::r,i=>aCg take r (i+1)
def Obj.turn:Obj->Obj
 |.arr t e xs=>.rng t e (length (α:=e.D) xs) xs
 |x=>x
def xJ(ids:List Nat):List (Nat×Obj)->List (Nat×Obj)
 |[]=>[]
 |(o,x)::r=>(o,bif aBt o ids then x.turn else x)::xJ ids r
def St.turn(σ:St)(take:List Nat):St:=⟨σ.slots,xJ (aCg take σ.slots 0) σ.objs⟩
def nO:Code->Nat
 |.region id _ _=>id
 |.seq a _=>nO a
 |.block _ c=>nO c
 |.loop c=>nO c
 |.cond _ a _=>nO a
 |_=>0
def St.norm(σ:St):Option aN1->St
 |none=>σ
 |some h=>(((σ.keepOnly h.keep).turn h.take).fill h.own 30000000).order
inductive zH where
 |undef|skip|nil|unit
 |dat (T:Ty)
 |arr (o:Nat)
 |sub (o:Nat)
 |bor (o:Nat) (p:List (Option Nat))
 |bptr (o:Nat) (p:List Nat) (T:Ty)
 |eptr (o:Nat) (p:List (Option Nat)) (T:Ty)
 |dptr (T:Ty)
 |clo (f:FuncId) (caps:zH)
 |fn (A B:Ty)
 |pair (a b:zH)
@[reducible] def shP:List (Option Nat)->Type->Type
 |[],t=>t
 |some _::r,t=>shP r t
 |none::r,t=>Nat×shP r t
def mkP{t:Type}:(p:List (Option Nat))->shP p t->List qR×t
 |[],x=>([],x)
 |some n::r,x=>match mkP r x with
  |(l,y)=>(.f n::l,y)
 |none::r,x=>match mkP r x.2 with
  |(l,y)=>(.i x.1::l,y)
def aD4{t:Type}:(p:List (Option Nat))->List qR->t->Option (shP p t)
 |[],[],y=>some y
 |some n::r,.f m::l,y=>bif Nat.beq m n then aD4 r l y else none
 |none::r,.i m::l,y=>match aD4 r l y with
  |some x=>some (m,x)
  |none=>none
 |_,_,_=>none
@[reducible] def zH.D:zH->Type->Type
 |.dat T,t=>T.D×t
 |.sub _,t=>Nat×Nat×t
 |.bor _ p,t=>shP p t
 |.eptr _ p _,t=>shP p t
 |.dptr T,t=>T.D×t
 |.clo _ c,t=>c.D t
 |.fn A B,t=>(A.D->Bool)×(A.D->B.D)×t
 |.pair a b,t=>a.D (b.D t)
 |_,t=>t
def zH.mk{t:Type}:(s:zH)->s.D t->CT×t
 |.undef,y=>(.undef,y)
 |.skip,y=>(.skip,y)
 |.nil,y=>(.nil,y)
 |.unit,y=>(.unit,y)
 |.dat T,y=>(.dat T y.1,y.2)
 |.arr o,y=>(.arr o,y)
 |.sub o,y=>(.sub o y.1 y.2.1,y.2.2)
 |.bor o p,y=>match mkP p y with
  |(l,z)=>(.bor o l,z)
 |.bptr o p T,y=>(.bptr o p T,y)
 |.eptr o p T,y=>match mkP p y with
  |(l,z)=>(.eptr o l T,z)
 |.dptr T,y=>(.dptr T y.1,y.2)
 |.clo f c,y=>match zH.mk c y with
  |(d,z)=>(.clo f d,z)
 |.fn A B,y=>(.fn A B y.1 y.2.1,y.2.2)
 |.pair a b,y=>match zH.mk a y with
  |(c,z)=>match zH.mk b z with
   |(d,u)=>(.pair c d,u)
def zH.view{t:Type}:(s:zH)->CT->t->Option (s.D t)
 |.undef,.undef,y=>some y
 |.skip,.skip,y=>some y
 |.nil,.nil,y=>some y
 |.unit,.unit,y=>some y
 |.dat T,.dat U x,y=>if h:U=T then some (h▸x,y) else none
 |.arr o,.arr q,y=>bif Nat.beq q o then some y else none
 |.sub o,.sub q l h,y=>bif Nat.beq q o then some (l,h,y) else none
 |.bor o p,.bor q l,y=>bif Nat.beq q o then aD4 p l y else none
 |.bptr o p T,.bptr q l U,y=>bif Nat.beq q o&&decide (l=p)&&decide (U=T) then some y else none
 |.eptr o p T,.eptr q l U,y=>bif Nat.beq q o&&decide (U=T) then aD4 p l y else none
 |.dptr T,.dptr U x,y=>if h:U=T then some (h▸x,y) else none
 |.clo f c,.clo g d,y=>bif Nat.beq g f then zH.view c d y else none
 |.fn A B,.fn A' B' p g,y=>if h:A'=A/\B'=B then some (h.1▸p,h.1▸h.2▸g,y) else none
 |.pair a b,.pair c d,y=>match zH.view b d y with
  |some z=>zH.view a c z
  |none=>none
 |_,_,_=>none
inductive ShS where
 |one (c:zH)|tup (c:zH)
@[reducible] def ShS.D:ShS->Type->Type
 |.one c,t=>c.D t
 |.tup c,t=>c.D t
def ShS.mk{t:Type}:(s:ShS)->s.D t->SV×t
 |.one c,y=>match c.mk y with
  |(d,z)=>(.one d,z)
 |.tup c,y=>match c.mk y with
  |(d,z)=>(.tup d,z)
def ShS.view{t:Type}:(s:ShS)->SV->t->Option (s.D t)
 |.one c,.one d,y=>c.view d y
 |.tup c,.tup d,y=>c.view d y
 |_,_,_=>none
inductive uN where
 |box (T:Ty) (c:zH)|arr (t:TypeId) (e:Ty)|rng (t:TypeId) (e:Ty)|dead
@[reducible] def uN.D:uN->Type->Type
 |.box _ c,t=>c.D t
 |.arr _ e,t=>List e.D×t
 |.rng _ e,t=>Nat×List e.D×t
 |.dead,t=>t
def uN.mk{t:Type}:(s:uN)->s.D t->Obj×t
 |.box T c,y=>match c.mk y with
  |(d,z)=>(.box T d,z)
 |.arr u e,y=>(.arr u e y.1,y.2)
 |.rng u e,y=>(.rng u e y.1 y.2.1,y.2.2)
 |.dead,y=>(.dead,y)
def uN.view{t:Type}:(s:uN)->Obj->t->Option (s.D t)
 |.box T c,.box U d,y=>bif decide (U=T) then c.view d y else none
 |.arr u e,.arr u' e' xs,y=>bif Nat.beq u' u then(if h:e'=e then some (h▸xs,y) else none) else none
 |.rng u e,.rng u' e' m xs,y=>bif Nat.beq u' u then(if h:e'=e then some (m,h▸xs,y) else none) else none
 |.dead,.dead,y=>some y
 |_,_,_=>none
@[reducible] def aF0:List ShS->Type->Type
 |[],t=>t
 |s::r,t=>s.D (aF0 r t)
@[reducible] def aHN:List (Nat×uN)->Type
 |[]=>Unit
 |s::r=>s.2.D (aHN r)
def aDC{t:Type}:(l:List ShS)->aF0 l t->List SV×t
 |[],y=>([],y)
 |s::r,y=>match s.mk y with
  |(x,z)=>match aDC r z with
   |(l,u)=>(x::l,u)
def xY{t:Type}:(l:List ShS)->List SV->t->Option (aF0 l t)
 |[],[],y=>some y
 |s::r,x::l,y=>match xY r l y with
  |some z=>s.view x z
  |none=>none
 |_,_,_=>none
def aGs:(l:List (Nat×uN))->aHN l->List (Nat×Obj)
 |[],_=>[]
 |s::r,y=>match s.2.mk y with
  |(x,z)=>(s.1,x)::aGs r z
def aBO:(l:List (Nat×uN))->List (Nat×Obj)->Option (aHN l)
 |[],[]=>some ()
 |s::r,x::l=>bif Nat.beq x.1 s.1 then match aBO r l with
  |some z=>s.2.view x.2 z
  |none=>none else none
 |_,_=>none
structure fG where
 slots:List ShS
 objs:List (Nat×uN)
@[reducible] def fG.D (s:fG):Type:=aF0 s.slots (aHN s.objs)
def fG.mk'(s:fG)(x:s.D):St:=
 match aDC s.slots x with
 |(l,y)=>⟨l,aGs s.objs y⟩
def fG.view(s:fG)(σ:St):Option s.D:=
 match aBO s.objs σ.objs with
 |some y=>xY s.slots σ.slots y
 |none=>none
def Ex.beq:Ex->Ex->Bool
 |.normal,.normal=>true
 |.exit i,.exit j=>Nat.beq i j
 |.ret,.ret=>true
 |_,_=>false
structure fQ where
 ex:Ex
 hint:aN1
 sh:fG
@[reducible] def aIj:List fQ->Type
 |[]=>Empty
 |[o]=>o.sh.D
 |o::r=>o.sh.D⊕aIj r
structure LC where
 key:Nat
 hint:aN1
 sh:fG
 outs:List fQ
 pre:sh.D->Bool
 fn:sh.D->aIj outs
def aDM:List LC->Nat->Option LC
 |[],_=>none
 |h::r,k=>bif Nat.beq h.key k then some h else aDM r k
def aL6{R:Type}(k:Kt R):(os:List fQ)->aIj os->Option R
 |[],x=>nomatch x
 |[o],x=>k o.ex (o.sh.mk' x)
 |o::o'::r,x=>Sum.elim (fun y=>k o.ex (o.sh.mk' y)) (fun y=>aL6 k (o'::r) y) x
def enter{R:Type}(os:List fQ)(x:aIj os)(k:Kt R):Option R:=aL6 k os x
def aAx:(os:List fQ)->Ex->St->Option (aIj os)
 |[],_,_=>none
 |[o],e,σ=>bif o.ex.beq e then o.sh.view (σ.norm (some o.hint)) else none
 |o::o'::r,e,σ=>match(bif o.ex.beq e then o.sh.view (σ.norm (some o.hint)) else none) with
  |some x=>some (.inl x)
  |none=>match aAx (o'::r) e σ with
   |some y=>some (.inr y)
   |none=>none
def LC.round(l:LC):Kt (l.sh.D⊕aIj l.outs):=fun e σ=>
 match e with
 |.normal=>match l.sh.view (σ.norm (some l.hint)) with
  |some s=>some (.inl s)
  |none=>none
 |e=>match aAx l.outs e σ with
  |some o=>some (.inr o)
  |none=>none
def aBI{R:Type}(E:eI)(H:List LC):Code->St->Kt R->Option R
 |.skip,σ,k=>k .normal σ
 |.region id ops draw,σ,k=>
  aIV E ops.toList (id*8192) ops.toList 0 σ [] fun σ' L=>
   bif !draw||aHb ops.toList L then k .normal σ' else none
 |.seq a b,σ,k=>aBI E H a σ fun e σ'=>
  match e with
  |.normal=>aBI E H b σ' k
  |e=>k e σ'
 |.cond c x y,σ,k=>
  match σ.at c with
  |.one (.dat .bool b)=>if b=true then aBI E H x σ k else aBI E H y σ k
  |_=>none
 |.block id c,σ,k=>aBI E H c σ fun e σ'=>
  match e with
  |.exit id'=>bif Nat.beq id' id then k .normal σ' else k (.exit id') σ'
  |e=>k e σ'
 |.loop c,σ,k=>
  match aDM H (nO c) with
  |none=>none
  |some l=>match l.sh.view (σ.norm (some l.hint)) with
   |none=>none
   |some s=>if l.pre s=true then enter l.outs (l.fn s) k else none
 |.exit id,σ,k=>k (.exit id) σ
 |.ret,σ,k=>k .ret σ
 |_,_,_=>none
def LC.step(l:LC)(E:eI)(H:List LC)(c:Code)(s:l.sh.D):Option (l.sh.D⊕aIj l.outs):=aBI E H c (l.sh.mk' s) l.round
def Rounds{S O:Type}(pre:S->Bool)(μ:S->Nat)(fn:S->O)(s:S):Option (S⊕O)->Prop
 |none=>False
 |some (.inl s')=>pre s'=true/\μ s'<μ s/\fn s'=fn s
 |some (.inr o)=>o=fn s
def bM(E:eI)(H:List LC)(c:Code)(l:LC):Prop:=
 ∃μ:l.sh.D->Nat,∀s,l.pre s=true->Rounds l.pre μ l.fn s (l.step E H c s)
def bF:Code->List Code
 |.seq a b=>bF a++bF b
 |.cond _ a b=>bF a++bF b
 |.block _ c=>bF c
 |.loop c=>c::bF c
 |_=>[]
def aH(E:eI)(H:List LC)(c:Code):Prop:=∀d∈bF c,∀l,aDM H (nO d)=some l->bM E H d l
structure Ini where
 cs:List SV
 objs:List (Nat×Obj)
def dD:(ps:List PM)->oC ps->Nat->Ini
 |[],_,_=>⟨[],[]⟩
 |.val T m::ps,x,n=>match nM m T x.1 (n+1) with
  |⟨c,l,_⟩=>match dD ps x.2 (n+64) with
   |⟨cs,l'⟩=>⟨.one c::cs,l++l'⟩
 |.mut T::ps,x,n=>match nH T x.1 (n+30000001) with
  |⟨c,l,_⟩=>match dD ps x.2 (n+64) with
   |⟨cs,l'⟩=>⟨.one c::cs,l++l'⟩
 |.ref T m::ps,x,n=>match nM m T x.1 (n+1) with
  |⟨c,l,_⟩=>match dD ps x.2 (n+64) with
   |⟨cs,l'⟩=>⟨.one (.bptr n [] T)::cs,(n,.box T c)::l++l'⟩
 |.fn A B::ps,x,n=>match dD ps x.2 (n+64) with
  |⟨cs,l'⟩=>⟨.one (.fn A B x.1.1 x.1.2)::cs,l'⟩
 |.peek T::ps,x,n=>match dD ps x.2 (n+64) with
  |⟨cs,l'⟩=>⟨.one (.dptr T x.1)::cs,l'⟩
 |.cell _ _::ps,x,n=>match dD ps x (n+64) with
  |⟨cs,l'⟩=>⟨.one (.bptr n [] .op)::cs,(n,.box .op .undef)::l'⟩
 |.nil _ _::ps,x,n=>match dD ps x (n+64) with
  |⟨cs,l'⟩=>⟨.one .nil::cs,l'⟩
def jW:(ps:List PM)->oC ps->Nat->Bool
 |[],_,n=>Nat.ble n 20000000
 |.val T m::ps,x,n=>Nat.ble (nM m T x.1 (n+1)).n (n+64)&&jW ps x.2 (n+64)
 |.mut T::ps,x,n=>Nat.ble (nH T x.1 (n+30000001)).n (n+30000064)&&jW ps x.2 (n+64)
 |.ref T m::ps,x,n=>Nat.ble (nM m T x.1 (n+1)).n (n+64)&&jW ps x.2 (n+64)
 |.fn _ _::ps,x,n=>jW ps x.2 (n+64)
 |.peek _::ps,x,n=>jW ps x.2 (n+64)
 |.cell _ _::ps,x,n=>jW ps x (n+64)
 |.nil _ _::ps,x,n=>jW ps x (n+64)
def init(ps:List PM)(xs:oC ps)(ntmps:Nat):St:=
 match dD ps xs 10000000 with
 |⟨cs,l⟩=>⟨cs++List.replicate (ntmps-cs.length) (.one .skip),l⟩
def nK:List PM->Nat->List (Nat×Obj)->List (Nat×Obj)
 |[],_,l=>l
 |.cell k T::ps,n,l=>put (nK ps (n+64) l) n (.box .op (.bptr (10000000+64*k) [] T))
 |_::ps,n,l=>nK ps (n+64) l
def aJq(l:List SV)(k:Nat):CT:=match pX l k with
 |.one c=>c
 |_=>.undef
def Wi.slot(cs:List SV):Wi->SV
 |.par k=>.one (aJq cs k)
 |.clo f ks=>.one (.clo f (aA9 (ks.map (aJq cs))))
def aLp(ps:List PM)(real:List Wi)(xs:oC ps)(ntmps:Nat):St:=
 match dD ps xs 10000000 with
 |⟨cs,l⟩=>⟨real.map (Wi.slot cs)++List.replicate (ntmps-real.length) (.one .skip),nK ps 10000000 l⟩
def yF(all:List PM):List PM->Bool
 |[]=>true
 |.cell k T::ps=>(match all[k]? with
  |some (.ref U _)=>decide (U=T)
  |_=>false)&&yF all ps
 |.ref _ _::ps=>yF all ps
 |_=>false
def Wi.lt(n:Nat):Wi->Bool
 |.par k=>Nat.blt k n
 |.clo _ ks=>ks.all fun k=>Nat.blt k n
def yU:(ps:List PM)->oC ps->Nat->M (yP ps×List Nat)
 |[],_,_=>.ret ((),[])
 |.val _ _::ps,x,n=>yU ps x.2 (n+64)
 |.fn _ _::ps,x,n=>yU ps x.2 (n+64)
 |.peek _::ps,x,n=>yU ps x.2 (n+64)
 |.nil _ _::ps,x,n=>yU ps x (n+64)
 |.cell k T::ps,x,n=>.get n fun
  |some (.box .op (.bptr o p U))=>bif Nat.beq o (10000000+64*k)&&p.isEmpty&&decide (U=T) then(yU ps x (n+64)).bind fun r=>.ret (r.1,n::r.2) else .fail
  |_=>.fail
 |.mut T::ps,x,n=>(nN T (nH T x.1 (n+30000001)).c).bind fun y=>(yU ps x.2 (n+64)).bind fun r=>.ret ((y.1,r.1),y.2++r.2)
 |.ref T m::ps,x,n=>.get n fun
  |some (.box U c)=>bif decide (U=T) then(xS m T c).bind fun y=>(yU ps x.2 (n+64)).bind fun r=>.ret ((y.1,r.1),n::y.2++r.2) else .fail
  |_=>.fail
def aDn:(rs:List (Ty×Md))->List CT->M (Res rs×List Nat×List Nat)
 |[],[]=>.ret ((),[],[])
 |(T,.f)::rs,c::cs=>(oD T c).bind fun x=>(aDn rs cs).bind fun r=>.ret ((x,r.1),r.2.1,c.ids++r.2.2)
 |(T,.np m)::rs,.bptr o [] _::cs=>.get o fun
  |some (.box U d)=>bif decide (U=T) then(xS m T d).bind fun x=>(aDn rs cs).bind fun r=>.ret ((x.1,r.1),o::x.2++r.2.1,r.2.2) else .fail
  |_=>.fail
 |(T,m)::rs,c::cs=>(xS m T c).bind fun x=>(aDn rs cs).bind fun r=>.ret ((x.1,r.1),x.2++r.2.1,r.2.2)
 |_,_=>.fail
def aBM(E:eI)(σ:St):List ResultVar->Option (List CT)
 |[]=>some []
 |.tmp t::r=>match pX σ.slots t,aBM E σ r with
  |.one c,some l=>some (c::l)
  |_,_=>none
 |.cell t ty::r=>match pX σ.slots t,E.ty ty,aBM E σ r with
  |.one (.bptr o [] U),some T,some l=>match find σ.objs o with
   |some (.box V c)=>bif decide (U=T)&&decide (V=T)&&c.fits T then some (c::l) else none
   |_=>none
  |_,_,_=>none
def aMN(E:eI)(fn:Func)(ps:List PM)(rs:List (Ty×Md))(xs:oC ps)(σ:St):Option (yP ps×Res rs):=
 match aBM E σ fn.results.toList with
 |none=>none
 |some cs=>((yU ps xs 10000000).bind fun o=>(aDn rs cs).bind fun r=>.ret (o,r)).run σ.objs [] fun x _=>
  bif uW (x.1.2++x.2.2.1)&&!(x.2.2.2.any fun o=>(x.1.2++x.2.2.1).any fun q=>Nat.beq q o) then some (x.1.1,x.2.1) else none
def aJ3:List PM->Bool
 |[]=>true
 |.cell _ _::_=>false
 |_::ps=>aJ3 ps
def bB(E:eI)(H:List LC)(fn:Func)(ps:List PM)(rs:List (Ty×Md))(xs:oC ps):Option (yP ps×Res rs):=
 match fn.body with
 |none=>none
 |some c=>bif jW ps xs 10000000&&aJ3 ps then aBI E H c (init ps xs fn.ntmps) fun e σ=>
  match e with
  |.exit _=>none
  |_=>aMN E fn ps rs xs σ
  else none
def qL(E:eI)(H:List LC)(fn:Func)(ps:List PM)(rs:List (Ty×Md))(real:List Wi)(xs:oC ps):Option (yP ps×Res rs):=
 match fn.body with
 |none=>none
 |some c=>bif jW ps xs 10000000&&yF ps ps&&real.all (Wi.lt ps.length) then aBI E H c (aLp ps real xs fn.ntmps) fun e σ=>
  match e with
  |.exit _=>none
  |_=>aMN E fn ps rs xs σ
  else none
end Go.Aw
