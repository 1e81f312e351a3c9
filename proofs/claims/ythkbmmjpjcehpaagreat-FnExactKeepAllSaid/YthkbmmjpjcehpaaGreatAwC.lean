/-
 The plain machine: regions, loops, functions.
-/
import Derived.Test.YthkbmmjpjcehpaaGreatAwB
namespace Go.Aw
open Go.IntKind (wrap)
open List (length)
def rS{α:Type}:List α->Nat->α->List α
 |[],_,_=>[]
 |_::r,0,a=>a::r
 |b::r,n+1,a=>b::rS r n a
def oQ:List SV->Nat->SV
 |[],_=>.one .undef
 |a::_,0=>a
 |_::r,n+1=>oQ r n
def aI7:Value->SV
 |.bool b=>.one (.dat .bool b)
 |.int k n=>bif decide (k.min<=n)&&decide (n<=k.max) then .one (.dat (.int k) n) else .one .undef
 |.string s=>bif decide (s.data.toList.length<=hY) then .one (.dat .str s.data.toList) else .one .undef
 |.slice none 0 0=>.one .nil
 |_=>.one .undef
def St.at(σ:St):Operand->SV
 |.tmp t=>oQ σ.slots t
 |.const v=>aI7 v
 |.func f=>.one (.clo f .unit)
 |_=>.one .undef
def aAG(n:Nat):List Nat->Bool
 |[]=>false
 |m::r=>Nat.beq m n||aAG n r
def isF:iW->Bool
 |.f _=>true
 |.i _=>false
def aEI:List iW->Bool
 |.i _::p=>p.all isF
 |_=>false
def CT.kill(o:List Nat):CT->CT
 |.bor q p=>bif aAG q o then .undef else .bor q p
 |.eptr q p T=>bif aAG q o&&!aEI p then .undef else .eptr q p T
 |.pair a b=>.pair (a.kill o) (b.kill o)
 |.clo f c=>.clo f (c.kill o)
 |c=>c
def SV.kill(o:List Nat):SV->SV
 |.one c=>.one (c.kill o)
 |.tup c=>.tup (c.kill o)
def Obj.kill(o:List Nat):Obj->Obj
 |.box T c=>.box T (c.kill o)
 |x=>x
def eM:List (Nat×Obj)->List (Nat×Obj)->List (Nat×Obj)
 |l,[]=>l
 |l,(o,x)::r=>eM (put l o x) r
def St.apply(σ:St)(dst:Option Tmp)(e:sY):St:=
 let objs:=eM σ.objs e.upd
 let slots:=match dst with
  |some d=>rS σ.slots d e.val
  |none=>σ.slots
 match e.kill with
 |none=>⟨slots,objs⟩
 |some o=>⟨slots.map (SV.kill o),objs.map fun p=>(p.1,p.2.kill o)⟩
structure Log where
 i:Nat
 reads:List Nat
 upd:List Nat
 kill:Bool
def M.run{α R:Type}(objs:List (Nat×Obj)):M α->List Nat->(α->List Nat->Option R)->Option R
 |.ret a,L,k=>k a L
 |.fail,_,_=>none
 |.get o f,L,k=>(f (find objs o)).run objs (o::L) k
 |.chk b m,L,k=>if b=true then m.run objs L k else none
 |.br b m n,L,k=>if b=true then m.run objs L k else n.run objs L k
inductive Ex where
 |normal|exit (id:Nat)|ret
abbrev Kt(R:Type):=Ex->St->Option R
def pY(ops:List Oper)(σ:St)(o:Oper):Option (Option (Bool×Bool×Tmp)):=
 match o.guard with
 |none=>some none
 |some (g,want)=>match ops[g]? with
  |some p=>match p.dst with
   |some d=>match oQ σ.slots d with
    |.one (.dat .bool x)=>some (some (x,want,d))
    |.one .skip=>some (some (!want,want,d))
    |_=>none
   |none=>none
  |none=>none
def yR:SV->Bool
 |.one .skip=>true
 |_=>false
def aGL{R:Type}(E:fG)(ops:List Oper)(base:Nat):List Oper->Nat->St->List Log->(St->List Log->Option R)->Option R
 |[],_,σ,L,k=>k σ L
 |o::rest,i,σ,L,k=>
  let one (σ:St):Option R:=(opM E (base+i*32) o σ.at).run σ.objs [] fun e l=>
   aGL E ops base rest (i+1) (σ.apply o.dst e) (⟨i,l,e.upd.map (·.1),e.kill.isSome⟩::L) k
  let no (σ:St):Option R:=aGL E ops base rest (i+1) (σ.apply o.dst ⟨.one .skip,[],none⟩) (⟨i,[],[],false⟩::L) k
  match pY ops σ o with
  |none=>none
  |some none=>one σ
  |some (some (x,want,d))=>
   bif yR (oQ σ.slots d) then no σ
   else bif want then(if x=true then one ⟨rS σ.slots d (.one (.dat .bool true)),σ.objs⟩ else no ⟨rS σ.slots d (.one (.dat .bool false)),σ.objs⟩)
   else(if x=true then no ⟨rS σ.slots d (.one (.dat .bool true)),σ.objs⟩ else one ⟨rS σ.slots d (.one (.dat .bool false)),σ.objs⟩)
def yG(ops:List Oper)(o:Oper):List Tmp:=
 (o.op.operands.toList.filterMap fun|.tmp t=>some t|_=>none)++
 (match o.guard with
  |some (g,_)=>match ops[g]? with
   |some p=>p.dst.toList
   |none=>[]
  |none=>[])
def aBi(a b:List Nat):Bool:=a.any fun n=>aAG n b
def aAd(m j:Nat):Bool:=Nat.beq (Nat.land (Nat.shiftRight m j) 1) 1
def nK(ops:List Oper):List Nat:=
 (ops.foldl (init:=([]:List Nat)) fun acc o=>
  acc++[o.after.toList.foldl (init:=0) fun s e=>bif Region.binds .any e then Nat.lor (Nat.lor (Nat.shiftLeft 1 e.on) (acc.getD e.on 0)) s else s])
def aFq(ops:List Oper)(x y:Oper):Bool:=
 !aBi x.dst.toList (yG ops y)&&!aBi y.dst.toList (yG ops x)&&!aBi x.dst.toList y.dst.toList
def aDy(x y:Log):Bool:=
 !x.kill&&!y.kill&&!aBi x.upd (y.reads++y.upd)&&!aBi y.upd x.reads
def aB7(ops:List Oper):Bool:=
 (ops.zipIdx).all fun p=>p.1.after.toList.all fun e=>!Region.binds .any e||Nat.blt e.on p.2
def aF9(ops:List Oper)(L:List Log):Bool:=
 let b:=nK ops
 aB7 ops&&L.all fun y=>L.all fun x=>
  !Nat.blt x.i y.i||aAd (b.getD y.i 0) x.i||
   (match ops[x.i]?,ops[y.i]? with
    |some p,some q=>aFq ops p q&&aDy x y
    |_,_=>false)
structure aKs where
 key:Nat
 keep:List Nat
 own:List (Nat×TypeId×Ty)
 take:List Nat:=[]
def CT.named:CT->List Nat
 |.arr o=>[o]
 |.sub o _ _=>[o]
 |.bor o _=>[o]
 |.bptr o _ _=>[o]
 |.eptr o _ _=>[o]
 |.clo _ c=>c.named
 |.pair a b=>a.named++b.named
 |_=>[]
def SV.named:SV->List Nat
 |.one c=>c.named
 |.tup c=>c.named
def CT.ren(π:List (Nat×Nat)):CT->CT
 |.arr o=>match find π o with|some q=>.arr q|none=>.undef
 |.sub o l h=>match find π o with|some q=>.sub q l h|none=>.undef
 |.bor o p=>match find π o with|some q=>.bor q p|none=>.undef
 |.bptr o p T=>match find π o with|some q=>.bptr q p T|none=>.undef
 |.eptr o p T=>match find π o with|some q=>.eptr q p T|none=>.undef
 |.clo f c=>.clo f (c.ren π)
 |.pair a b=>.pair (a.ren π) (b.ren π)
 |c=>c
def SV.ren(π:List (Nat×Nat)):SV->SV
 |.one c=>.one (c.ren π)
 |.tup c=>.tup (c.ren π)
def Obj.ren(π:List (Nat×Nat)):Obj->Obj
 |.box T c=>.box T (c.ren π)
 |x=>x
def CT.pack:CT->CT
 |.pair a b=>match a.pack,b.pack with
  |.dat A x,.dat B y=>.dat (.pair A B) (x,y)
  |.dat A x,.unit=>.dat (.pair A .unit) (x,())
  |c,d=>.pair c d
 |c=>c
def Obj.named:Obj->List Nat
 |.box _ c=>c.named
 |_=>[]
def iD(n:Nat):CT->Ty->CT×List (Nat×Obj)×Nat
 |.nil,.sl t e=>(.arr n,[(n,.arr t e [])],n+1)
 |.pair a b,.pair A B=>
  match iD n a A with
  |(c,l,n')=>match iD n' b B with
   |(d,r,n'')=>(.pair c d,l++r,n'')
 |c,_=>(c,[],n)
def jT(n:Nat):List (Nat×Obj)->List (Nat×Obj)×List (Nat×Obj)×Nat
 |[]=>([],[],n)
 |(o,.box T c)::r=>
  match iD n c T with
  |(d,l,n')=>match jT n' r with
   |(r',l',n'')=>((o,.box T d.pack)::r',l++l',n'')
 |(o,x)::r=>match jT n r with
  |(r',l',n')=>((o,x)::r',l',n')
def qR(n:Nat)(own:List (Nat×TypeId×Ty)):List SV->Nat->List SV×List (Nat×Obj)×Nat
 |[],_=>([],[],n)
 |.one .nil::r,i=>match find own i with
  |some (t,e)=>match qR (n+1) own r (i+1) with
   |(r',l,n')=>(.one (.arr n)::r',(n,.arr t e [])::l,n')
  |none=>match qR n own r (i+1) with
   |(r',l,n')=>(.one .nil::r',l,n')
 |.one c::r,i=>match qR n own r (i+1) with
  |(r',l,n')=>(.one c.pack::r',l,n')
 |s::r,i=>match qR n own r (i+1) with
  |(r',l,n')=>(s::r',l,n')
def nR(keep:List Nat):List SV->Nat->List SV
 |[],_=>[]
 |s::r,i=>(bif aAG i keep then s else .one .undef)::nR keep r (i+1)
def aGc(objs:List (Nat×Obj)):Nat->List Nat->List Nat->List Nat
 |0,_,acc=>acc.reverse
 |_,[],acc=>acc.reverse
 |n+1,o::todo,acc=>bif aAG o acc then aGc objs n todo acc else
  match find objs o with
  |some .dead=>aGc objs n todo acc
  |some x=>aGc objs n (x.named++todo) (o::acc)
  |none=>aGc objs n todo acc
def aLX:Option Obj->Bool
 |some (.box _ _)=>false
 |_=>true
def aJJ(objs:List (Nat×Obj)):List Nat->Nat->List (Nat×Nat)
 |[],_=>[]
 |o::r,n=>bif aLX (find objs o)&&Nat.blt o 40000000 then(o,n)::aJJ objs r (n+1) else(o,o)::aJJ objs r n
def pS(objs:List (Nat×Obj))(π:List (Nat×Nat)):List (Nat×Nat)->List (Nat×Obj)
 |[]=>[]
 |(o,q)::r=>match find objs o with
  |some x=>(q,x.ren π)::pS objs π r
  |none=>pS objs π r
def St.keepOnly(σ:St)(keep:List Nat):St:=⟨nR keep σ.slots 0,σ.objs⟩
def St.fill(σ:St)(own:List (Nat×TypeId×Ty))(n:Nat):St:=
 match qR n own σ.slots 0 with
 |(s,l,n')=>match jT n' σ.objs with
  |(os,l',n'')=>bif Nat.ble 20000000 n&&Nat.ble n'' 40000000&&(l++l').all (fun p=>match find σ.objs p.1 with|none=>true|some _=>false) then⟨s,os++(l++l')⟩ else σ
def aK7(objs:List (Nat×Obj))(π:List (Nat×Nat)):Bool:=
 tA (π.map (·.1))&&tA (π.map (·.2))&&π.all fun p=>(find objs p.1).isSome&&(Nat.beq p.1 p.2||(Nat.ble 20000000 p.2&&Nat.blt p.2 40000000))
def St.order(σ:St):St:=
 let ids:=aGc σ.objs 1000 (σ.slots.flatMap SV.named) []
 let π:=aJJ σ.objs ids 20000000
 bif aK7 σ.objs π then⟨σ.slots.map (SV.ren π),pS σ.objs π π⟩ else σ
def aAZ(take:List Nat):List SV->Nat->List Nat
 |[],_=>[]
 |.one (.arr o)::r,i=>bif aAG i take then o::aAZ take r (i+1) else aAZ take r (i+1)
 |_::r,i=>aAZ take r (i+1)
def Obj.turn:Obj->Obj
 |.arr t e xs=>.rng t e (length (α:=e.D) xs) xs
 |x=>x
def uY(ids:List Nat):List (Nat×Obj)->List (Nat×Obj)
 |[]=>[]
 |(o,x)::r=>(o,bif aAG o ids then x.turn else x)::uY ids r
def St.turn(σ:St)(take:List Nat):St:=⟨σ.slots,uY (aAZ take σ.slots 0) σ.objs⟩
def mD:Code->Nat
 |.region id _ _=>id
 |.seq a _=>mD a
 |.block _ c=>mD c
 |.loop c=>mD c
 |.cond _ a _=>mD a
 |_=>0
def St.norm(σ:St):Option aKs->St
 |none=>σ
 |some h=>(((σ.keepOnly h.keep).turn h.take).fill h.own 30000000).order
inductive wZ where
 |undef|skip|nil|unit
 |dat (T:Ty)
 |arr (o:Nat)
 |sub (o:Nat)
 |bor (o:Nat) (p:List (Option Nat))
 |bptr (o:Nat) (p:List Nat) (T:Ty)
 |eptr (o:Nat) (p:List (Option Nat)) (T:Ty)
 |dptr (T:Ty)
 |clo (f:FuncId) (caps:wZ)
 |fn (A B:Ty)
 |pair (a b:wZ)
@[reducible] def shP:List (Option Nat)->Type->Type
 |[],t=>t
 |some _::r,t=>shP r t
 |none::r,t=>Nat×shP r t
def mkP{t:Type}:(p:List (Option Nat))->shP p t->List iW×t
 |[],x=>([],x)
 |some n::r,x=>match mkP r x with
  |(l,y)=>(.f n::l,y)
 |none::r,x=>match mkP r x.2 with
  |(l,y)=>(.i x.1::l,y)
def aBN{t:Type}:(p:List (Option Nat))->List iW->t->Option (shP p t)
 |[],[],y=>some y
 |some n::r,.f m::l,y=>bif Nat.beq m n then aBN r l y else none
 |none::r,.i m::l,y=>match aBN r l y with
  |some x=>some (m,x)
  |none=>none
 |_,_,_=>none
@[reducible] def wZ.D:wZ->Type->Type
 |.dat T,t=>T.D×t
 |.sub _,t=>Nat×Nat×t
 |.bor _ p,t=>shP p t
 |.eptr _ p _,t=>shP p t
 |.dptr T,t=>T.D×t
 |.clo _ c,t=>c.D t
 |.fn A B,t=>(A.D->Bool)×(A.D->B.D)×t
 |.pair a b,t=>a.D (b.D t)
 |_,t=>t
def wZ.mk{t:Type}:(s:wZ)->s.D t->CT×t
 |.undef,y=>(.undef,y)
 |.skip,y=>(.skip,y)
 |.nil,y=>(.nil,y)
 |.unit,y=>(.unit,y)
 |.dat T,y=>(.dat T y.1,y.2)
 |.arr o,y=>(.arr o,y)
 |.sub o,y=>(.sub o y.1 y.2.1,y.2.2)
 |.bor o p,y=>match mkP p y with
  |(l,z)=>(.bor o l,z)
 |.bptr o p T,y=>(.bptr o p T,y)
 |.eptr o p T,y=>match mkP p y with
  |(l,z)=>(.eptr o l T,z)
 |.dptr T,y=>(.dptr T y.1,y.2)
 |.clo f c,y=>match wZ.mk c y with
  |(d,z)=>(.clo f d,z)
 |.fn A B,y=>(.fn A B y.1 y.2.1,y.2.2)
 |.pair a b,y=>match wZ.mk a y with
  |(c,z)=>match wZ.mk b z with
   |(d,u)=>(.pair c d,u)
def wZ.view{t:Type}:(s:wZ)->CT->t->Option (s.D t)
 |.undef,.undef,y=>some y
 |.skip,.skip,y=>some y
 |.nil,.nil,y=>some y
 |.unit,.unit,y=>some y
 |.dat T,.dat U x,y=>if h:U=T then some (h▸x,y) else none
 |.arr o,.arr q,y=>bif Nat.beq q o then some y else none
 |.sub o,.sub q l h,y=>bif Nat.beq q o then some (l,h,y) else none
 |.bor o p,.bor q l,y=>bif Nat.beq q o then aBN p l y else none
 |.bptr o p T,.bptr q l U,y=>bif Nat.beq q o&&decide (l=p)&&decide (U=T) then some y else none
 |.eptr o p T,.eptr q l U,y=>bif Nat.beq q o&&decide (U=T) then aBN p l y else none
 |.dptr T,.dptr U x,y=>if h:U=T then some (h▸x,y) else none
 |.clo f c,.clo g d,y=>bif Nat.beq g f then wZ.view c d y else none
 |.fn A B,.fn A' B' p g,y=>if h:A'=A/\B'=B then some (h.1▸p,h.1▸h.2▸g,y) else none
 |.pair a b,.pair c d,y=>match wZ.view b d y with
  |some z=>wZ.view a c z
  |none=>none
 |_,_,_=>none
inductive ShS where
 |one (c:wZ)|tup (c:wZ)
@[reducible] def ShS.D:ShS->Type->Type
 |.one c,t=>c.D t
 |.tup c,t=>c.D t
def ShS.mk{t:Type}:(s:ShS)->s.D t->SV×t
 |.one c,y=>match c.mk y with
  |(d,z)=>(.one d,z)
 |.tup c,y=>match c.mk y with
  |(d,z)=>(.tup d,z)
def ShS.view{t:Type}:(s:ShS)->SV->t->Option (s.D t)
 |.one c,.one d,y=>c.view d y
 |.tup c,.tup d,y=>c.view d y
 |_,_,_=>none
inductive vN where
 |box (T:Ty) (c:wZ)|arr (t:TypeId) (e:Ty)|rng (t:TypeId) (e:Ty)|dead
@[reducible] def vN.D:vN->Type->Type
 |.box _ c,t=>c.D t
 |.arr _ e,t=>List e.D×t
 |.rng _ e,t=>Nat×List e.D×t
 |.dead,t=>t
def vN.mk{t:Type}:(s:vN)->s.D t->Obj×t
 |.box T c,y=>match c.mk y with
  |(d,z)=>(.box T d,z)
 |.arr u e,y=>(.arr u e y.1,y.2)
 |.rng u e,y=>(.rng u e y.1 y.2.1,y.2.2)
 |.dead,y=>(.dead,y)
def vN.view{t:Type}:(s:vN)->Obj->t->Option (s.D t)
 |.box T c,.box U d,y=>bif decide (U=T) then c.view d y else none
 |.arr u e,.arr u' e' xs,y=>bif Nat.beq u' u then(if h:e'=e then some (h▸xs,y) else none) else none
 |.rng u e,.rng u' e' m xs,y=>bif Nat.beq u' u then(if h:e'=e then some (m,h▸xs,y) else none) else none
 |.dead,.dead,y=>some y
 |_,_,_=>none
@[reducible] def aDr:List ShS->Type->Type
 |[],t=>t
 |s::r,t=>s.D (aDr r t)
@[reducible] def aG8:List (Nat×vN)->Type
 |[]=>Unit
 |s::r=>s.2.D (aG8 r)
def aCg{t:Type}:(l:List ShS)->aDr l t->List SV×t
 |[],y=>([],y)
 |s::r,y=>match s.mk y with
  |(x,z)=>match aCg r z with
   |(l,u)=>(x::l,u)
def wQ{t:Type}:(l:List ShS)->List SV->t->Option (aDr l t)
 |[],[],y=>some y
 |s::r,x::l,y=>match wQ r l y with
  |some z=>s.view x z
  |none=>none
 |_,_,_=>none
def aEY:(l:List (Nat×vN))->aG8 l->List (Nat×Obj)
 |[],_=>[]
 |s::r,y=>match s.2.mk y with
  |(x,z)=>(s.1,x)::aEY r z
def aBh:(l:List (Nat×vN))->List (Nat×Obj)->Option (aG8 l)
 |[],[]=>some ()
 |s::r,x::l=>bif Nat.beq x.1 s.1 then match aBh r l with
  |some z=>s.2.view x.2 z
  |none=>none else none
 |_,_=>none
structure gJ where
 slots:List ShS
 objs:List (Nat×vN)
@[reducible] def gJ.D (s:gJ):Type:=aDr s.slots (aG8 s.objs)
def gJ.mk'(s:gJ)(x:s.D):St:=
 match aCg s.slots x with
 |(l,y)=>⟨l,aEY s.objs y⟩
def gJ.view(s:gJ)(σ:St):Option s.D:=
 match aBh s.objs σ.objs with
 |some y=>wQ s.slots σ.slots y
 |none=>none
def Ex.beq:Ex->Ex->Bool
 |.normal,.normal=>true
 |.exit i,.exit j=>Nat.beq i j
 |.ret,.ret=>true
 |_,_=>false
structure hJ where
 ex:Ex
 hint:aKs
 sh:gJ
@[reducible] def aFN:List hJ->Type
 |[]=>Empty
 |[o]=>o.sh.D
 |o::r=>o.sh.D⊕aFN r
structure LC where
 key:Nat
 hint:aKs
 sh:gJ
 outs:List hJ
 pre:sh.D->Bool
 fn:sh.D->aFN outs
def aCX:List LC->Nat->Option LC
 |[],_=>none
 |h::r,k=>bif Nat.beq h.key k then some h else aCX r k
def aJ7{R:Type}(k:Kt R):(os:List hJ)->aFN os->Option R
 |[],x=>nomatch x
 |[o],x=>k o.ex (o.sh.mk' x)
 |o::o'::r,x=>Sum.elim (fun y=>k o.ex (o.sh.mk' y)) (fun y=>aJ7 k (o'::r) y) x
def enter{R:Type}(os:List hJ)(x:aFN os)(k:Kt R):Option R:=aJ7 k os x
def yM:(os:List hJ)->Ex->St->Option (aFN os)
 |[],_,_=>none
 |[o],e,σ=>bif o.ex.beq e then o.sh.view (σ.norm (some o.hint)) else none
 |o::o'::r,e,σ=>match(bif o.ex.beq e then o.sh.view (σ.norm (some o.hint)) else none) with
  |some x=>some (.inl x)
  |none=>match yM (o'::r) e σ with
   |some y=>some (.inr y)
   |none=>none
def LC.round(l:LC):Kt (l.sh.D⊕aFN l.outs):=fun e σ=>
 match e with
 |.normal=>match l.sh.view (σ.norm (some l.hint)) with
  |some s=>some (.inl s)
  |none=>none
 |e=>match yM l.outs e σ with
  |some o=>some (.inr o)
  |none=>none
def aAv{R:Type}(E:fG)(H:List LC):Code->St->Kt R->Option R
 |.skip,σ,k=>k .normal σ
 |.region id ops draw,σ,k=>
  aGL E ops.toList (id*8192) ops.toList 0 σ [] fun σ' L=>
   bif !draw||aF9 ops.toList L then k .normal σ' else none
 |.seq a b,σ,k=>aAv E H a σ fun e σ'=>
  match e with
  |.normal=>aAv E H b σ' k
  |e=>k e σ'
 |.cond c x y,σ,k=>
  match σ.at c with
  |.one (.dat .bool b)=>if b=true then aAv E H x σ k else aAv E H y σ k
  |_=>none
 |.block id c,σ,k=>aAv E H c σ fun e σ'=>
  match e with
  |.exit id'=>bif Nat.beq id' id then k .normal σ' else k (.exit id') σ'
  |e=>k e σ'
 |.loop c,σ,k=>
  match aCX H (mD c) with
  |none=>none
  |some l=>match l.sh.view (σ.norm (some l.hint)) with
   |none=>none
   |some s=>if l.pre s=true then enter l.outs (l.fn s) k else none
 |.exit id,σ,k=>k (.exit id) σ
 |.ret,σ,k=>k .ret σ
 |_,_,_=>none
def LC.step(l:LC)(E:fG)(H:List LC)(c:Code)(s:l.sh.D):Option (l.sh.D⊕aFN l.outs):=aAv E H c (l.sh.mk' s) l.round
def Rounds{S O:Type}(pre:S->Bool)(μ:S->Nat)(fn:S->O)(s:S):Option (S⊕O)->Prop
 |none=>False
 |some (.inl s')=>pre s'=true/\μ s'<μ s/\fn s'=fn s
 |some (.inr o)=>o=fn s
def cP(E:fG)(H:List LC)(c:Code)(l:LC):Prop:=
 ∃μ:l.sh.D->Nat,∀s,l.pre s=true->Rounds l.pre μ l.fn s (l.step E H c s)
def bI:Code->List Code
 |.seq a b=>bI a++bI b
 |.cond _ a b=>bI a++bI b
 |.block _ c=>bI c
 |.loop c=>c::bI c
 |_=>[]
def aI(E:fG)(H:List LC)(c:Code):Prop:=∀d∈bI c,∀l,aCX H (mD d)=some l->cP E H d l
structure Ini where
 cs:List SV
 objs:List (Nat×Obj)
def dD:(ps:List PM)->mN ps->Nat->Ini
 |[],_,_=>⟨[],[]⟩
 |.val T m::ps,x,n=>match mB m T x.1 (n+1) with
  |⟨c,l,_⟩=>match dD ps x.2 (n+64) with
   |⟨cs,l'⟩=>⟨.one c::cs,l++l'⟩
 |.mut T::ps,x,n=>match lZ T x.1 (n+30000001) with
  |⟨c,l,_⟩=>match dD ps x.2 (n+64) with
   |⟨cs,l'⟩=>⟨.one c::cs,l++l'⟩
 |.ref T m::ps,x,n=>match mB m T x.1 (n+1) with
  |⟨c,l,_⟩=>match dD ps x.2 (n+64) with
   |⟨cs,l'⟩=>⟨.one (.bptr n [] T)::cs,(n,.box T c)::l++l'⟩
 |.fn A B::ps,x,n=>match dD ps x.2 (n+64) with
  |⟨cs,l'⟩=>⟨.one (.fn A B x.1.1 x.1.2)::cs,l'⟩
 |.peek T::ps,x,n=>match dD ps x.2 (n+64) with
  |⟨cs,l'⟩=>⟨.one (.dptr T x.1)::cs,l'⟩
 |.cell _ _::ps,x,n=>match dD ps x (n+64) with
  |⟨cs,l'⟩=>⟨.one (.bptr n [] .op)::cs,(n,.box .op .undef)::l'⟩
 |.nil _ _::ps,x,n=>match dD ps x (n+64) with
  |⟨cs,l'⟩=>⟨.one .nil::cs,l'⟩
def jE:(ps:List PM)->mN ps->Nat->Bool
 |[],_,n=>Nat.ble n 20000000
 |.val T m::ps,x,n=>Nat.ble (mB m T x.1 (n+1)).n (n+64)&&jE ps x.2 (n+64)
 |.mut T::ps,x,n=>Nat.ble (lZ T x.1 (n+30000001)).n (n+30000064)&&jE ps x.2 (n+64)
 |.ref T m::ps,x,n=>Nat.ble (mB m T x.1 (n+1)).n (n+64)&&jE ps x.2 (n+64)
 |.fn _ _::ps,x,n=>jE ps x.2 (n+64)
 |.peek _::ps,x,n=>jE ps x.2 (n+64)
 |.cell _ _::ps,x,n=>jE ps x (n+64)
 |.nil _ _::ps,x,n=>jE ps x (n+64)
def init(ps:List PM)(xs:mN ps)(ntmps:Nat):St:=
 match dD ps xs 10000000 with
 |⟨cs,l⟩=>⟨cs++List.replicate (ntmps-cs.length) (.one .skip),l⟩
def setCells:List PM->Nat->List (Nat×Obj)->List (Nat×Obj)
 |[],_,l=>l
 |.cell k T::ps,n,l=>put (setCells ps (n+64) l) n (.box .op (.bptr (10000000+64*k) [] T))
 |_::ps,n,l=>setCells ps (n+64) l
def aGT(l:List SV)(k:Nat):CT:=match oQ l k with
 |.one c=>c
 |_=>.undef
def Wi.slot(cs:List SV):Wi->SV
 |.par k=>.one (aGT cs k)
 |.clo f ks=>.one (.clo f (xV (ks.map (aGT cs))))
def aJt(ps:List PM)(real:List Wi)(xs:mN ps)(ntmps:Nat):St:=
 match dD ps xs 10000000 with
 |⟨cs,l⟩=>⟨real.map (Wi.slot cs)++List.replicate (ntmps-real.length) (.one .skip),setCells ps 10000000 l⟩
def wT(all:List PM):List PM->Bool
 |[]=>true
 |.cell k T::ps=>(match all[k]? with
  |some (.ref U _)=>decide (U=T)
  |_=>false)&&wT all ps
 |.ref _ _::ps=>wT all ps
 |_=>false
def Wi.lt(n:Nat):Wi->Bool
 |.par k=>Nat.blt k n
 |.clo _ ks=>ks.all fun k=>Nat.blt k n
def wY:(ps:List PM)->mN ps->Nat->M (wG ps×List Nat)
 |[],_,_=>.ret ((),[])
 |.val _ _::ps,x,n=>wY ps x.2 (n+64)
 |.fn _ _::ps,x,n=>wY ps x.2 (n+64)
 |.peek _::ps,x,n=>wY ps x.2 (n+64)
 |.nil _ _::ps,x,n=>wY ps x (n+64)
 |.cell k T::ps,x,n=>.get n fun
  |some (.box .op (.bptr o p U))=>bif Nat.beq o (10000000+64*k)&&p.isEmpty&&decide (U=T) then(wY ps x (n+64)).bind fun r=>.ret (r.1,n::r.2) else .fail
  |_=>.fail
 |.mut T::ps,x,n=>(mC T (lZ T x.1 (n+30000001)).c).bind fun y=>(wY ps x.2 (n+64)).bind fun r=>.ret ((y.1,r.1),y.2++r.2)
 |.ref T m::ps,x,n=>.get n fun
  |some (.box U c)=>bif decide (U=T) then(vI m T c).bind fun y=>(wY ps x.2 (n+64)).bind fun r=>.ret ((y.1,r.1),n::y.2++r.2) else .fail
  |_=>.fail
def aCd:(rs:List (Ty×Md))->List CT->M (Res rs×List Nat×List Nat)
 |[],[]=>.ret ((),[],[])
 |(T,.f)::rs,c::cs=>(mR T c).bind fun x=>(aCd rs cs).bind fun r=>.ret ((x,r.1),r.2.1,c.ids++r.2.2)
 |(T,.np m)::rs,.bptr o [] _::cs=>.get o fun
  |some (.box U d)=>bif decide (U=T) then(vI m T d).bind fun x=>(aCd rs cs).bind fun r=>.ret ((x.1,r.1),o::x.2++r.2.1,r.2.2) else .fail
  |_=>.fail
 |(T,m)::rs,c::cs=>(vI m T c).bind fun x=>(aCd rs cs).bind fun r=>.ret ((x.1,r.1),x.2++r.2.1,r.2.2)
 |_,_=>.fail
def aAF(E:fG)(σ:St):List ResultVar->Option (List CT)
 |[]=>some []
 |.tmp t::r=>match oQ σ.slots t,aAF E σ r with
  |.one c,some l=>some (c::l)
  |_,_=>none
 |.cell t ty::r=>match oQ σ.slots t,E.ty ty,aAF E σ r with
  |.one (.bptr o [] U),some T,some l=>match find σ.objs o with
   |some (.box V c)=>bif decide (U=T)&&decide (V=T)&&c.fits T then some (c::l) else none
   |_=>none
  |_,_,_=>none
def aKj(E:fG)(fn:Func)(ps:List PM)(rs:List (Ty×Md))(xs:mN ps)(σ:St):Option (wG ps×Res rs):=
 match aAF E σ fn.results.toList with
 |none=>none
 |some cs=>((wY ps xs 10000000).bind fun o=>(aCd rs cs).bind fun r=>.ret (o,r)).run σ.objs [] fun x _=>
  bif tA (x.1.2++x.2.2.1)&&!(x.2.2.2.any fun o=>(x.1.2++x.2.2.1).any fun q=>Nat.beq q o) then some (x.1.1,x.2.1) else none
def aHh:List PM->Bool
 |[]=>true
 |.cell _ _::_=>false
 |_::ps=>aHh ps
def bB(E:fG)(H:List LC)(fn:Func)(ps:List PM)(rs:List (Ty×Md))(xs:mN ps):Option (wG ps×Res rs):=
 match fn.body with
 |none=>none
 |some c=>bif jE ps xs 10000000&&aHh ps then aAv E H c (init ps xs fn.ntmps) fun e σ=>
  match e with
  |.exit _=>none
  |_=>aKj E fn ps rs xs σ
  else none
def aH4(E:fG)(H:List LC)(fn:Func)(ps:List PM)(rs:List (Ty×Md))(real:List Wi)(xs:mN ps):Option (wG ps×Res rs):=
 match fn.body with
 |none=>none
 |some c=>bif jE ps xs 10000000&&wT ps ps&&real.all (Wi.lt ps.length) then aAv E H c (aJt ps real xs fn.ntmps) fun e σ=>
  match e with
  |.exit _=>none
  |_=>aKj E fn ps rs xs σ
  else none
end Go.Aw
