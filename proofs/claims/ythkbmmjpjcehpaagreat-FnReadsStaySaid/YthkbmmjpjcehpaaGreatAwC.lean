/-
 The plain machine: regions, loops, functions.
-/
import Derived.Test.YthkbmmjpjcehpaaGreatAwB
namespace Go.Aw
open Go.IntKind (wrap)
open List (length)
def pY{α:Type}:List α->Nat->α->List α
 |[],_,_=>[]
 |_::r,0,a=>a::r
 |b::r,n+1,a=>b::pY r n a
def nI:List SV->Nat->SV
 |[],_=>.one .undef
 |a::_,0=>a
 |_::r,n+1=>nI r n
def aGw:Value->SV
 |.bool b=>.one (.dat .bool b)
 |.int k n=>bif decide (k.min<=n)&&decide (n<=k.max) then .one (.dat (.int k) n) else .one .undef
 |.string s=>bif decide (s.data.toList.length<=gO) then .one (.dat .str s.data.toList) else .one .undef
 |.slice none 0 0=>.one .nil
 |_=>.one .undef
def St.at(σ:St):Operand->SV
 |.tmp t=>nI σ.slots t
 |.const v=>aGw v
 |.func f=>.one (.clo f .unit)
 |_=>.one .undef
def zB(n:Nat):List Nat->Bool
 |[]=>false
 |m::r=>Nat.beq m n||zB n r
def isF:hJ->Bool
 |.f _=>true
 |.i _=>false
def aDP:List hJ->Bool
 |.i _::p=>p.all isF
 |_=>false
def CT.kill(o:List Nat):CT->CT
 |.bor q p=>bif zB q o then .undef else .bor q p
 |.eptr q p T=>bif zB q o&&!aDP p then .undef else .eptr q p T
 |.pair a b=>.pair (a.kill o) (b.kill o)
 |.clo f c=>.clo f (c.kill o)
 |c=>c
def SV.kill(o:List Nat):SV->SV
 |.one c=>.one (c.kill o)
 |.tup c=>.tup (c.kill o)
def Obj.kill(o:List Nat):Obj->Obj
 |.box T c=>.box T (c.kill o)
 |x=>x
def eI:List (Nat×Obj)->List (Nat×Obj)->List (Nat×Obj)
 |l,[]=>l
 |l,(o,x)::r=>eI (put l o x) r
def St.apply(σ:St)(dst:Option Tmp)(e:rE):St:=
 let objs:=eI σ.objs e.upd
 let slots:=match dst with
  |some d=>pY σ.slots d e.val
  |none=>σ.slots
 match e.kill with
 |none=>⟨slots,objs⟩
 |some o=>⟨slots.map (SV.kill o),objs.map fun p=>(p.1,p.2.kill o)⟩
structure yE where
 i:Nat
 reads:List Nat
 upd:List Nat
 kill:Bool
def M.run{α R:Type}(objs:List (Nat×Obj)):M α->List Nat->(α->List Nat->Option R)->Option R
 |.ret a,L,k=>k a L
 |.fail,_,_=>none
 |.get o f,L,k=>(f (find objs o)).run objs (o::L) k
 |.chk b m,L,k=>if b=true then m.run objs L k else none
 |.br b m n,L,k=>if b=true then m.run objs L k else n.run objs L k
inductive Ex where
 |normal|exit (id:Nat)|ret
abbrev Kt(R:Type):=Ex->St->Option R
def oP(ops:List Oper)(σ:St)(o:Oper):Option (Option (Bool×Bool×Tmp)):=
 match o.guard with
 |none=>some none
 |some (g,want)=>match ops[g]? with
  |some p=>match p.dst with
   |some d=>match nI σ.slots d with
    |.one (.dat .bool x)=>some (some (x,want,d))
    |.one .skip=>some (some (!want,want,d))
    |_=>none
   |none=>none
  |none=>none
def wA:SV->Bool
 |.one .skip=>true
 |_=>false
def aFM{R:Type}(E:fN)(ops:List Oper)(base:Nat):List Oper->Nat->St->List yE->(St->List yE->Option R)->Option R
 |[],_,σ,L,k=>k σ L
 |o::rest,i,σ,L,k=>
  let one (σ:St):Option R:=(opM E (base+i*32) o σ.at).run σ.objs [] fun e l=>
   aFM E ops base rest (i+1) (σ.apply o.dst e) (⟨i,l,e.upd.map (·.1),e.kill.isSome⟩::L) k
  let no (σ:St):Option R:=aFM E ops base rest (i+1) (σ.apply o.dst ⟨.one .skip,[],none⟩) (⟨i,[],[],false⟩::L) k
  match oP ops σ o with
  |none=>none
  |some none=>one σ
  |some (some (x,want,d))=>
   bif wA (nI σ.slots d) then no σ
   else bif want then(if x=true then one ⟨pY σ.slots d (.one (.dat .bool true)),σ.objs⟩ else no ⟨pY σ.slots d (.one (.dat .bool false)),σ.objs⟩)
   else(if x=true then no ⟨pY σ.slots d (.one (.dat .bool true)),σ.objs⟩ else one ⟨pY σ.slots d (.one (.dat .bool false)),σ.objs⟩)
def vU(ops:List Oper)(o:Oper):List Tmp:=
 (o.op.operands.toList.filterMap fun|.tmp t=>some t|_=>none)++
 (match o.guard with
  |some (g,_)=>match ops[g]? with
   |some p=>p.dst.toList
   |none=>[]
  |none=>[])
def zL(a b:List Nat):Bool:=a.any fun n=>zB n b
def yC(m j:Nat):Bool:=Nat.beq (Nat.land (Nat.shiftRight m j) 1) 1
def mI(ops:List Oper):List Nat:=
 (ops.foldl (init:=([]:List Nat)) fun acc o=>
  acc++[o.after.toList.foldl (init:=0) fun s e=>bif Region.binds .any e then Nat.lor (Nat.lor (Nat.shiftLeft 1 e.on) (acc.getD e.on 0)) s else s])
def aDM(ops:List Oper)(x y:Oper):Bool:=
 !zL x.dst.toList (vU ops y)&&!zL y.dst.toList (vU ops x)&&!zL x.dst.toList y.dst.toList
def aBR(x y:yE):Bool:=
 !x.kill&&!y.kill&&!zL x.upd (y.reads++y.upd)&&!zL y.upd x.reads
def aAa(ops:List Oper):Bool:=
 (ops.zipIdx).all fun p=>p.1.after.toList.all fun e=>!Region.binds .any e||Nat.blt e.on p.2
def aDo(ops:List Oper)(L:List yE):Bool:=
 let b:=mI ops
 aAa ops&&L.all fun y=>L.all fun x=>
  !Nat.blt x.i y.i||yC (b.getD y.i 0) x.i||
   (match ops[x.i]?,ops[y.i]? with
    |some p,some q=>aDM ops p q&&aBR x y
    |_,_=>false)
structure aJx where
 key:Nat
 keep:List Nat
 own:List (Nat×TypeId×Ty)
 take:List Nat:=[]
def CT.named:CT->List Nat
 |.arr o=>[o]
 |.sub o _ _=>[o]
 |.bor o _=>[o]
 |.bptr o _ _=>[o]
 |.eptr o _ _=>[o]
 |.clo _ c=>c.named
 |.pair a b=>a.named++b.named
 |_=>[]
def SV.named:SV->List Nat
 |.one c=>c.named
 |.tup c=>c.named
def CT.ren(π:List (Nat×Nat)):CT->CT
 |.arr o=>match find π o with|some q=>.arr q|none=>.undef
 |.sub o l h=>match find π o with|some q=>.sub q l h|none=>.undef
 |.bor o p=>match find π o with|some q=>.bor q p|none=>.undef
 |.bptr o p T=>match find π o with|some q=>.bptr q p T|none=>.undef
 |.eptr o p T=>match find π o with|some q=>.eptr q p T|none=>.undef
 |.clo f c=>.clo f (c.ren π)
 |.pair a b=>.pair (a.ren π) (b.ren π)
 |c=>c
def SV.ren(π:List (Nat×Nat)):SV->SV
 |.one c=>.one (c.ren π)
 |.tup c=>.tup (c.ren π)
def Obj.ren(π:List (Nat×Nat)):Obj->Obj
 |.box T c=>.box T (c.ren π)
 |x=>x
def CT.pack:CT->CT
 |.pair a b=>match a.pack,b.pack with
  |.dat A x,.dat B y=>.dat (.pair A B) (x,y)
  |.dat A x,.unit=>.dat (.pair A .unit) (x,())
  |c,d=>.pair c d
 |c=>c
def Obj.named:Obj->List Nat
 |.box _ c=>c.named
 |_=>[]
def gW(n:Nat):CT->Ty->CT×List (Nat×Obj)×Nat
 |.nil,.sl t e=>(.arr n,[(n,.arr t e [])],n+1)
 |.pair a b,.pair A B=>
  match gW n a A with
  |(c,l,n')=>match gW n' b B with
   |(d,r,n'')=>(.pair c d,l++r,n'')
 |c,_=>(c,[],n)
def jE(n:Nat):List (Nat×Obj)->List (Nat×Obj)×List (Nat×Obj)×Nat
 |[]=>([],[],n)
 |(o,.box T c)::r=>
  match gW n c T with
  |(d,l,n')=>match jE n' r with
   |(r',l',n'')=>((o,.box T d.pack)::r',l++l',n'')
 |(o,x)::r=>match jE n r with
  |(r',l',n')=>((o,x)::r',l',n')
def pA(n:Nat)(own:List (Nat×TypeId×Ty)):List SV->Nat->List SV×List (Nat×Obj)×Nat
 |[],_=>([],[],n)
 |.one .nil::r,i=>match find own i with
  |some (t,e)=>match pA (n+1) own r (i+1) with
   |(r',l,n')=>(.one (.arr n)::r',(n,.arr t e [])::l,n')
  |none=>match pA n own r (i+1) with
   |(r',l,n')=>(.one .nil::r',l,n')
 |.one c::r,i=>match pA n own r (i+1) with
  |(r',l,n')=>(.one c.pack::r',l,n')
 |s::r,i=>match pA n own r (i+1) with
  |(r',l,n')=>(s::r',l,n')
def mL(keep:List Nat):List SV->Nat->List SV
 |[],_=>[]
 |s::r,i=>(bif zB i keep then s else .one .undef)::mL keep r (i+1)
def aEm(objs:List (Nat×Obj)):Nat->List Nat->List Nat->List Nat
 |0,_,acc=>acc.reverse
 |_,[],acc=>acc.reverse
 |n+1,o::todo,acc=>bif zB o acc then aEm objs n todo acc else
  match find objs o with
  |some .dead=>aEm objs n todo acc
  |some x=>aEm objs n (x.named++todo) (o::acc)
  |none=>aEm objs n todo acc
def aKC:Option Obj->Bool
 |some (.box _ _)=>false
 |_=>true
def aHF(objs:List (Nat×Obj)):List Nat->Nat->List (Nat×Nat)
 |[],_=>[]
 |o::r,n=>bif aKC (find objs o)&&Nat.blt o 40000000 then(o,n)::aHF objs r (n+1) else(o,o)::aHF objs r n
def oJ(objs:List (Nat×Obj))(π:List (Nat×Nat)):List (Nat×Nat)->List (Nat×Obj)
 |[]=>[]
 |(o,q)::r=>match find objs o with
  |some x=>(q,x.ren π)::oJ objs π r
  |none=>oJ objs π r
def St.keepOnly(σ:St)(keep:List Nat):St:=⟨mL keep σ.slots 0,σ.objs⟩
def St.fill(σ:St)(own:List (Nat×TypeId×Ty))(n:Nat):St:=
 match pA n own σ.slots 0 with
 |(s,l,n')=>match jE n' σ.objs with
  |(os,l',n'')=>bif Nat.ble 20000000 n&&Nat.ble n'' 40000000&&(l++l').all (fun p=>match find σ.objs p.1 with|none=>true|some _=>false) then⟨s,os++(l++l')⟩ else σ
def aI0(objs:List (Nat×Obj))(π:List (Nat×Nat)):Bool:=
 rH (π.map (·.1))&&rH (π.map (·.2))&&π.all fun p=>(find objs p.1).isSome&&(Nat.beq p.1 p.2||(Nat.ble 20000000 p.2&&Nat.blt p.2 40000000))
def St.order(σ:St):St:=
 let ids:=aEm σ.objs 1000 (σ.slots.flatMap SV.named) []
 let π:=aHF σ.objs ids 20000000
 bif aI0 σ.objs π then⟨σ.slots.map (SV.ren π),oJ σ.objs π π⟩ else σ
def aA1(take:List Nat):List SV->Nat->List Nat
 |[],_=>[]
 |.one (.arr o)::r,i=>bif zB i take then o::aA1 take r (i+1) else aA1 take r (i+1)
 |_::r,i=>aA1 take r (i+1)
def Obj.turn:Obj->Obj
 |.arr t e xs=>.rng t e (length (α:=e.D) xs) xs
 |x=>x
def sR(ids:List Nat):List (Nat×Obj)->List (Nat×Obj)
 |[]=>[]
 |(o,x)::r=>(o,bif zB o ids then x.turn else x)::sR ids r
def St.turn(σ:St)(take:List Nat):St:=⟨σ.slots,sR (aA1 take σ.slots 0) σ.objs⟩
def lA:Code->Nat
 |.region id _ _=>id
 |.seq a _=>lA a
 |.block _ c=>lA c
 |.loop c=>lA c
 |.cond _ a _=>lA a
 |_=>0
def St.norm(σ:St):Option aJx->St
 |none=>σ
 |some h=>(((σ.keepOnly h.keep).turn h.take).fill h.own 30000000).order
inductive uS where
 |undef|skip|nil|unit
 |dat (T:Ty)
 |arr (o:Nat)
 |sub (o:Nat)
 |bor (o:Nat) (p:List (Option Nat))
 |bptr (o:Nat) (p:List Nat) (T:Ty)
 |eptr (o:Nat) (p:List (Option Nat)) (T:Ty)
 |dptr (T:Ty)
 |clo (f:FuncId) (caps:uS)
 |fn (A B:Ty)
 |pair (a b:uS)
@[reducible] def shP:List (Option Nat)->Type->Type
 |[],t=>t
 |some _::r,t=>shP r t
 |none::r,t=>Nat×shP r t
def mkP{t:Type}:(p:List (Option Nat))->shP p t->List hJ×t
 |[],x=>([],x)
 |some n::r,x=>match mkP r x with
  |(l,y)=>(.f n::l,y)
 |none::r,x=>match mkP r x.2 with
  |(l,y)=>(.i x.1::l,y)
def aB5{t:Type}:(p:List (Option Nat))->List hJ->t->Option (shP p t)
 |[],[],y=>some y
 |some n::r,.f m::l,y=>bif Nat.beq m n then aB5 r l y else none
 |none::r,.i m::l,y=>match aB5 r l y with
  |some x=>some (m,x)
  |none=>none
 |_,_,_=>none
@[reducible] def uS.D:uS->Type->Type
 |.dat T,t=>T.D×t
 |.sub _,t=>Nat×Nat×t
 |.bor _ p,t=>shP p t
 |.eptr _ p _,t=>shP p t
 |.dptr T,t=>T.D×t
 |.clo _ c,t=>c.D t
 |.fn A B,t=>(A.D->Bool)×(A.D->B.D)×t
 |.pair a b,t=>a.D (b.D t)
 |_,t=>t
def uS.mk{t:Type}:(s:uS)->s.D t->CT×t
 |.undef,y=>(.undef,y)
 |.skip,y=>(.skip,y)
 |.nil,y=>(.nil,y)
 |.unit,y=>(.unit,y)
 |.dat T,y=>(.dat T y.1,y.2)
 |.arr o,y=>(.arr o,y)
 |.sub o,y=>(.sub o y.1 y.2.1,y.2.2)
 |.bor o p,y=>match mkP p y with
  |(l,z)=>(.bor o l,z)
 |.bptr o p T,y=>(.bptr o p T,y)
 |.eptr o p T,y=>match mkP p y with
  |(l,z)=>(.eptr o l T,z)
 |.dptr T,y=>(.dptr T y.1,y.2)
 |.clo f c,y=>match uS.mk c y with
  |(d,z)=>(.clo f d,z)
 |.fn A B,y=>(.fn A B y.1 y.2.1,y.2.2)
 |.pair a b,y=>match uS.mk a y with
  |(c,z)=>match uS.mk b z with
   |(d,u)=>(.pair c d,u)
def uS.view{t:Type}:(s:uS)->CT->t->Option (s.D t)
 |.undef,.undef,y=>some y
 |.skip,.skip,y=>some y
 |.nil,.nil,y=>some y
 |.unit,.unit,y=>some y
 |.dat T,.dat U x,y=>if h:U=T then some (h▸x,y) else none
 |.arr o,.arr q,y=>bif Nat.beq q o then some y else none
 |.sub o,.sub q l h,y=>bif Nat.beq q o then some (l,h,y) else none
 |.bor o p,.bor q l,y=>bif Nat.beq q o then aB5 p l y else none
 |.bptr o p T,.bptr q l U,y=>bif Nat.beq q o&&decide (l=p)&&decide (U=T) then some y else none
 |.eptr o p T,.eptr q l U,y=>bif Nat.beq q o&&decide (U=T) then aB5 p l y else none
 |.dptr T,.dptr U x,y=>if h:U=T then some (h▸x,y) else none
 |.clo f c,.clo g d,y=>bif Nat.beq g f then uS.view c d y else none
 |.fn A B,.fn A' B' p g,y=>if h:A'=A/\B'=B then some (h.1▸p,h.1▸h.2▸g,y) else none
 |.pair a b,.pair c d,y=>match uS.view b d y with
  |some z=>uS.view a c z
  |none=>none
 |_,_,_=>none
inductive ShS where
 |one (c:uS)|tup (c:uS)
@[reducible] def ShS.D:ShS->Type->Type
 |.one c,t=>c.D t
 |.tup c,t=>c.D t
def ShS.mk{t:Type}:(s:ShS)->s.D t->SV×t
 |.one c,y=>match c.mk y with
  |(d,z)=>(.one d,z)
 |.tup c,y=>match c.mk y with
  |(d,z)=>(.tup d,z)
def ShS.view{t:Type}:(s:ShS)->SV->t->Option (s.D t)
 |.one c,.one d,y=>c.view d y
 |.tup c,.tup d,y=>c.view d y
 |_,_,_=>none
inductive vT where
 |box (T:Ty) (c:uS)|arr (t:TypeId) (e:Ty)|rng (t:TypeId) (e:Ty)|dead
@[reducible] def vT.D:vT->Type->Type
 |.box _ c,t=>c.D t
 |.arr _ e,t=>List e.D×t
 |.rng _ e,t=>Nat×List e.D×t
 |.dead,t=>t
def vT.mk{t:Type}:(s:vT)->s.D t->Obj×t
 |.box T c,y=>match c.mk y with
  |(d,z)=>(.box T d,z)
 |.arr u e,y=>(.arr u e y.1,y.2)
 |.rng u e,y=>(.rng u e y.1 y.2.1,y.2.2)
 |.dead,y=>(.dead,y)
def vT.view{t:Type}:(s:vT)->Obj->t->Option (s.D t)
 |.box T c,.box U d,y=>bif decide (U=T) then c.view d y else none
 |.arr u e,.arr u' e' xs,y=>bif Nat.beq u' u then(if h:e'=e then some (h▸xs,y) else none) else none
 |.rng u e,.rng u' e' m xs,y=>bif Nat.beq u' u then(if h:e'=e then some (m,h▸xs,y) else none) else none
 |.dead,.dead,y=>some y
 |_,_,_=>none
@[reducible] def aBW:List ShS->Type->Type
 |[],t=>t
 |s::r,t=>s.D (aBW r t)
@[reducible] def aEn:List (Nat×vT)->Type
 |[]=>Unit
 |s::r=>s.2.D (aEn r)
def aBo{t:Type}:(l:List ShS)->aBW l t->List SV×t
 |[],y=>([],y)
 |s::r,y=>match s.mk y with
  |(x,z)=>match aBo r z with
   |(l,u)=>(x::l,u)
def uI{t:Type}:(l:List ShS)->List SV->t->Option (aBW l t)
 |[],[],y=>some y
 |s::r,x::l,y=>match uI r l y with
  |some z=>s.view x z
  |none=>none
 |_,_,_=>none
def aE4:(l:List (Nat×vT))->aEn l->List (Nat×Obj)
 |[],_=>[]
 |s::r,y=>match s.2.mk y with
  |(x,z)=>(s.1,x)::aE4 r z
def aAg:(l:List (Nat×vT))->List (Nat×Obj)->Option (aEn l)
 |[],[]=>some ()
 |s::r,x::l=>bif Nat.beq x.1 s.1 then match aAg r l with
  |some z=>s.2.view x.2 z
  |none=>none else none
 |_,_=>none
structure iN where
 slots:List ShS
 objs:List (Nat×vT)
@[reducible] def iN.D (s:iN):Type:=aBW s.slots (aEn s.objs)
def iN.mk'(s:iN)(x:s.D):St:=
 match aBo s.slots x with
 |(l,y)=>⟨l,aE4 s.objs y⟩
def iN.view(s:iN)(σ:St):Option s.D:=
 match aAg s.objs σ.objs with
 |some y=>uI s.slots σ.slots y
 |none=>none
def Ex.beq:Ex->Ex->Bool
 |.normal,.normal=>true
 |.exit i,.exit j=>Nat.beq i j
 |.ret,.ret=>true
 |_,_=>false
structure iZ where
 ex:Ex
 hint:aJx
 sh:iN
@[reducible] def aF4:List iZ->Type
 |[]=>Empty
 |[o]=>o.sh.D
 |o::r=>o.sh.D⊕aF4 r
structure LC where
 key:Nat
 hint:aJx
 sh:iN
 outs:List iZ
 pre:sh.D->Bool
 fn:sh.D->aF4 outs
def aBB:List LC->Nat->Option LC
 |[],_=>none
 |h::r,k=>bif Nat.beq h.key k then some h else aBB r k
def aIp{R:Type}(k:Kt R):(os:List iZ)->aF4 os->Option R
 |[],x=>nomatch x
 |[o],x=>k o.ex (o.sh.mk' x)
 |o::o'::r,x=>Sum.elim (fun y=>k o.ex (o.sh.mk' y)) (fun y=>aIp k (o'::r) y) x
def enter{R:Type}(os:List iZ)(x:aF4 os)(k:Kt R):Option R:=aIp k os x
def wX:(os:List iZ)->Ex->St->Option (aF4 os)
 |[],_,_=>none
 |[o],e,σ=>bif o.ex.beq e then o.sh.view (σ.norm (some o.hint)) else none
 |o::o'::r,e,σ=>match(bif o.ex.beq e then o.sh.view (σ.norm (some o.hint)) else none) with
  |some x=>some (.inl x)
  |none=>match wX (o'::r) e σ with
   |some y=>some (.inr y)
   |none=>none
def LC.round(l:LC):Kt (l.sh.D⊕aF4 l.outs):=fun e σ=>
 match e with
 |.normal=>match l.sh.view (σ.norm (some l.hint)) with
  |some s=>some (.inl s)
  |none=>none
 |e=>match wX l.outs e σ with
  |some o=>some (.inr o)
  |none=>none
def yZ{R:Type}(E:fN)(H:List LC):Code->St->Kt R->Option R
 |.skip,σ,k=>k .normal σ
 |.region id ops draw,σ,k=>
  aFM E ops.toList (id*8192) ops.toList 0 σ [] fun σ' L=>
   bif !draw||aDo ops.toList L then k .normal σ' else none
 |.seq a b,σ,k=>yZ E H a σ fun e σ'=>
  match e with
  |.normal=>yZ E H b σ' k
  |e=>k e σ'
 |.cond c x y,σ,k=>
  match σ.at c with
  |.one (.dat .bool b)=>if b=true then yZ E H x σ k else yZ E H y σ k
  |_=>none
 |.block id c,σ,k=>yZ E H c σ fun e σ'=>
  match e with
  |.exit id'=>bif Nat.beq id' id then k .normal σ' else k (.exit id') σ'
  |e=>k e σ'
 |.loop c,σ,k=>
  match aBB H (lA c) with
  |none=>none
  |some l=>match l.sh.view (σ.norm (some l.hint)) with
   |none=>none
   |some s=>if l.pre s=true then enter l.outs (l.fn s) k else none
 |.exit id,σ,k=>k (.exit id) σ
 |.ret,σ,k=>k .ret σ
 |_,_,_=>none
def LC.step(l:LC)(E:fN)(H:List LC)(c:Code)(s:l.sh.D):Option (l.sh.D⊕aF4 l.outs):=yZ E H c (l.sh.mk' s) l.round
def aX{S O:Type}(pre:S->Bool)(μ:S->Nat)(fn:S->O)(s:S):Option (S⊕O)->Prop
 |none=>False
 |some (.inl s')=>pre s'=true/\μ s'<μ s/\fn s'=fn s
 |some (.inr o)=>o=fn s
def dE(E:fN)(H:List LC)(c:Code)(l:LC):Prop:=
 ∃μ:l.sh.D->Nat,∀s,l.pre s=true->aX l.pre μ l.fn s (l.step E H c s)
def cB:Code->List Code
 |.seq a b=>cB a++cB b
 |.cond _ a b=>cB a++cB b
 |.block _ c=>cB c
 |.loop c=>c::cB c
 |_=>[]
def aL(E:fN)(H:List LC)(c:Code):Prop:=∀d∈cB c,∀l,aBB H (lA d)=some l->dE E H d l
structure Ini where
 cs:List SV
 objs:List (Nat×Obj)
def cO:(ps:List PM)->lE ps->Nat->Ini
 |[],_,_=>⟨[],[]⟩
 |.val T m::ps,x,n=>match kY m T x.1 (n+1) with
  |⟨c,l,_⟩=>match cO ps x.2 (n+64) with
   |⟨cs,l'⟩=>⟨.one c::cs,l++l'⟩
 |.mut T::ps,x,n=>match kV T x.1 (n+30000001) with
  |⟨c,l,_⟩=>match cO ps x.2 (n+64) with
   |⟨cs,l'⟩=>⟨.one c::cs,l++l'⟩
 |.ref T m::ps,x,n=>match kY m T x.1 (n+1) with
  |⟨c,l,_⟩=>match cO ps x.2 (n+64) with
   |⟨cs,l'⟩=>⟨.one (.bptr n [] T)::cs,(n,.box T c)::l++l'⟩
 |.fn A B::ps,x,n=>match cO ps x.2 (n+64) with
  |⟨cs,l'⟩=>⟨.one (.fn A B x.1.1 x.1.2)::cs,l'⟩
 |.peek T::ps,x,n=>match cO ps x.2 (n+64) with
  |⟨cs,l'⟩=>⟨.one (.dptr T x.1)::cs,l'⟩
 |.cell _ _::ps,x,n=>match cO ps x (n+64) with
  |⟨cs,l'⟩=>⟨.one (.bptr n [] .op)::cs,(n,.box .op .undef)::l'⟩
 |.nil _ _::ps,x,n=>match cO ps x (n+64) with
  |⟨cs,l'⟩=>⟨.one .nil::cs,l'⟩
def iS:(ps:List PM)->lE ps->Nat->Bool
 |[],_,n=>Nat.ble n 20000000
 |.val T m::ps,x,n=>Nat.ble (kY m T x.1 (n+1)).n (n+64)&&iS ps x.2 (n+64)
 |.mut T::ps,x,n=>Nat.ble (kV T x.1 (n+30000001)).n (n+30000064)&&iS ps x.2 (n+64)
 |.ref T m::ps,x,n=>Nat.ble (kY m T x.1 (n+1)).n (n+64)&&iS ps x.2 (n+64)
 |.fn _ _::ps,x,n=>iS ps x.2 (n+64)
 |.peek _::ps,x,n=>iS ps x.2 (n+64)
 |.cell _ _::ps,x,n=>iS ps x (n+64)
 |.nil _ _::ps,x,n=>iS ps x (n+64)
def init(ps:List PM)(xs:lE ps)(ntmps:Nat):St:=
 match cO ps xs 10000000 with
 |⟨cs,l⟩=>⟨cs++List.replicate (ntmps-cs.length) (.one .skip),l⟩
def setCells:List PM->Nat->List (Nat×Obj)->List (Nat×Obj)
 |[],_,l=>l
 |.cell k T::ps,n,l=>put (setCells ps (n+64) l) n (.box .op (.bptr (10000000+64*k) [] T))
 |_::ps,n,l=>setCells ps (n+64) l
def aG1(l:List SV)(k:Nat):CT:=match nI l k with
 |.one c=>c
 |_=>.undef
def Wi.slot(cs:List SV):Wi->SV
 |.par k=>.one (aG1 cs k)
 |.clo f ks=>.one (.clo f (uV (ks.map (aG1 cs))))
def aHN(ps:List PM)(real:List Wi)(xs:lE ps)(ntmps:Nat):St:=
 match cO ps xs 10000000 with
 |⟨cs,l⟩=>⟨real.map (Wi.slot cs)++List.replicate (ntmps-real.length) (.one .skip),setCells ps 10000000 l⟩
def tZ(all:List PM):List PM->Bool
 |[]=>true
 |.cell k T::ps=>(match all[k]? with
  |some (.ref U _)=>decide (U=T)
  |_=>false)&&tZ all ps
 |.ref _ _::ps=>tZ all ps
 |_=>false
def Wi.lt(n:Nat):Wi->Bool
 |.par k=>Nat.blt k n
 |.clo _ ks=>ks.all fun k=>Nat.blt k n
def uP:(ps:List PM)->lE ps->Nat->M (tW ps×List Nat)
 |[],_,_=>.ret ((),[])
 |.val _ _::ps,x,n=>uP ps x.2 (n+64)
 |.fn _ _::ps,x,n=>uP ps x.2 (n+64)
 |.peek _::ps,x,n=>uP ps x.2 (n+64)
 |.nil _ _::ps,x,n=>uP ps x (n+64)
 |.cell k T::ps,x,n=>.get n fun
  |some (.box .op (.bptr o p U))=>bif Nat.beq o (10000000+64*k)&&p.isEmpty&&decide (U=T) then(uP ps x (n+64)).bind fun r=>.ret (r.1,n::r.2) else .fail
  |_=>.fail
 |.mut T::ps,x,n=>(lB T (kV T x.1 (n+30000001)).c).bind fun y=>(uP ps x.2 (n+64)).bind fun r=>.ret ((y.1,r.1),y.2++r.2)
 |.ref T m::ps,x,n=>.get n fun
  |some (.box U c)=>bif decide (U=T) then(tF m T c).bind fun y=>(uP ps x.2 (n+64)).bind fun r=>.ret ((y.1,r.1),n::y.2++r.2) else .fail
  |_=>.fail
def aBa:(rs:List (Ty×Md))->List CT->M (Res rs×List Nat×List Nat)
 |[],[]=>.ret ((),[],[])
 |(T,.f)::rs,c::cs=>(lJ T c).bind fun x=>(aBa rs cs).bind fun r=>.ret ((x,r.1),r.2.1,c.ids++r.2.2)
 |(T,.np m)::rs,.bptr o [] _::cs=>.get o fun
  |some (.box U d)=>bif decide (U=T) then(tF m T d).bind fun x=>(aBa rs cs).bind fun r=>.ret ((x.1,r.1),o::x.2++r.2.1,r.2.2) else .fail
  |_=>.fail
 |(T,m)::rs,c::cs=>(tF m T c).bind fun x=>(aBa rs cs).bind fun r=>.ret ((x.1,r.1),x.2++r.2.1,r.2.2)
 |_,_=>.fail
def yQ(E:fN)(σ:St):List ResultVar->Option (List CT)
 |[]=>some []
 |.tmp t::r=>match nI σ.slots t,yQ E σ r with
  |.one c,some l=>some (c::l)
  |_,_=>none
 |.cell t ty::r=>match nI σ.slots t,E.ty ty,yQ E σ r with
  |.one (.bptr o [] U),some T,some l=>match find σ.objs o with
   |some (.box V c)=>bif decide (U=T)&&decide (V=T)&&c.fits T then some (c::l) else none
   |_=>none
  |_,_,_=>none
def aJh(E:fN)(fn:Func)(ps:List PM)(rs:List (Ty×Md))(xs:lE ps)(σ:St):Option (tW ps×Res rs):=
 match yQ E σ fn.results.toList with
 |none=>none
 |some cs=>((uP ps xs 10000000).bind fun o=>(aBa rs cs).bind fun r=>.ret (o,r)).run σ.objs [] fun x _=>
  bif rH (x.1.2++x.2.2.1)&&!(x.2.2.2.any fun o=>(x.1.2++x.2.2.1).any fun q=>Nat.beq q o) then some (x.1.1,x.2.1) else none
def aFy:List PM->Bool
 |[]=>true
 |.cell _ _::_=>false
 |_::ps=>aFy ps
def bG(E:fN)(H:List LC)(fn:Func)(ps:List PM)(rs:List (Ty×Md))(xs:lE ps):Option (tW ps×Res rs):=
 match fn.body with
 |none=>none
 |some c=>bif iS ps xs 10000000&&aFy ps then yZ E H c (init ps xs fn.ntmps) fun e σ=>
  match e with
  |.exit _=>none
  |_=>aJh E fn ps rs xs σ
  else none
def aFu(E:fN)(H:List LC)(fn:Func)(ps:List PM)(rs:List (Ty×Md))(real:List Wi)(xs:lE ps):Option (tW ps×Res rs):=
 match fn.body with
 |none=>none
 |some c=>bif iS ps xs 10000000&&tZ ps ps&&real.all (Wi.lt ps.length) then yZ E H c (aHN ps real xs fn.ntmps) fun e σ=>
  match e with
  |.exit _=>none
  |_=>aJh E fn ps rs xs σ
  else none
end Go.Aw
