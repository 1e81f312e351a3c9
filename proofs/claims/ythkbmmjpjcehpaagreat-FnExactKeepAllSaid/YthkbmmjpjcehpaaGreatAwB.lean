/-
 The plain machine: it runs Go code on plain data; what is shared is never written, what is written belongs to one name.
-/
import Derived.Test.YthkbmmjpjcehpaaGreatAwA
namespace Go.Aw
open Go.IntKind (wrap)
open List (length)
inductive CT where
 |undef|skip|nil|unit
 |dat (T:Ty) (x:T.D)
 |arr (o:Nat)
 |sub (o lo hi:Nat)
 |bor (o:Nat) (p:List iW)
 |bptr (o:Nat) (p:List Nat) (T:Ty)
 |eptr (o:Nat) (p:List iW) (T:Ty)
 |dptr (T:Ty) (x:T.D)
 |clo (f:FuncId) (caps:CT)
 |fn (A B:Ty) (pre:A.D->Bool) (g:A.D->B.D)
 |pair (a b:CT)
inductive SV where
 |one (c:CT)
 |tup (c:CT)
inductive Obj where
 |box (T:Ty) (c:CT)
 |arr (t:TypeId) (e:Ty) (xs:List e.D)
 |rng (t:TypeId) (e:Ty) (m:Nat) (xs:List e.D)
 |dead
structure St where
 slots:List SV
 objs:List (Nat×Obj)
inductive Md where
 |f|o|pair (a b:Md)
 |np (m:Md)
 deriving DecidableEq,Inhabited
inductive PM where
 |val (T:Ty) (m:Md)
 |mut (T:Ty)
 |ref (T:Ty) (m:Md)
 |fn (A B:Ty)
 |peek (T:Ty)
 |cell (k:Nat) (T:Ty)
 |nil (t:TypeId) (e:Ty)
@[reducible] def mN:List PM->Type
 |[]=>Unit
 |.val T _::ps=>T.D×mN ps
 |.mut T::ps=>T.D×mN ps
 |.ref T _::ps=>T.D×mN ps
 |.fn A B::ps=>((A.D->Bool)×(A.D->B.D))×mN ps
 |.peek T::ps=>T.D×mN ps
 |.cell _ _::ps=>mN ps
 |.nil _ _::ps=>mN ps
@[reducible] def wG:List PM->Type
 |[]=>Unit
 |.val _ _::ps=>wG ps
 |.mut T::ps=>T.D×wG ps
 |.ref T _::ps=>T.D×wG ps
 |.fn _ _::ps=>wG ps
 |.peek _::ps=>wG ps
 |.cell _ _::ps=>wG ps
 |.nil _ _::ps=>wG ps
@[reducible] def Res:List (Ty×Md)->Type
 |[]=>Unit
 |r::rs=>r.1.D×Res rs
structure FS where
 ps:List PM
 rs:List (Ty×Md)
 pre:mN ps->Bool
 fn:mN ps->wG ps×Res rs
inductive M(α:Type):Type where
 |ret (a:α)
 |fail
 |get (o:Nat) (k:Option Obj->M α)
 |chk (b:Bool) (m:M α)
 |br (b:Bool) (m n:M α)
def M.bind{α β:Type}:M α->(α->M β)->M β
 |.ret a,f=>f a
 |.fail,_=>.fail
 |.get o k,f=>.get o fun x=>(k x).bind f
 |.chk b m,f=>.chk b (m.bind f)
 |.br b m n,f=>.br b (m.bind f) (n.bind f)
instance:Monad M where
 pure:=M.ret
 bind:=M.bind
def find{α:Type}:List (Nat×α)->Nat->Option α
 |[],_=>none
 |(i,a)::r,o=>bif Nat.beq i o then some a else find r o
def put{α:Type}:List (Nat×α)->Nat->α->List (Nat×α)
 |[],o,a=>[(o,a)]
 |(i,b)::r,o,a=>bif Nat.beq i o then(i,a)::r else(i,b)::put r o a
def oV(T U:Ty)(x:U.D):M T.D:=if h:U=T then .ret (h▸x) else .fail
def CT.fld:CT->Nat->CT
 |.dat (.pair a _) x,0=>.dat a x.1
 |.dat (.pair _ b) x,n+1=>CT.fld (.dat b x.2) n
 |.pair a _,0=>a
 |.pair _ b,n+1=>CT.fld b n
 |_,_=>.undef
termination_by structural _ n=>n
def CT.setFld:CT->Nat->CT->CT
 |.dat (.pair _ b) x,0,v=>.pair v (.dat b x.2)
 |.dat (.pair a b) x,n+1,v=>.pair (.dat a x.1) (CT.setFld (.dat b x.2) n v)
 |.pair _ b,0,v=>.pair v b
 |.pair a b,n+1,v=>.pair a (CT.setFld b n v)
 |c,_,_=>c
termination_by structural _ n=>n
def CT.atp:CT->List Nat->CT
 |c,[]=>c
 |c,n::p=>CT.atp (c.fld n) p
termination_by structural _ p=>p
def CT.setp:CT->List Nat->CT->CT
 |_,[],v=>v
 |c,n::p,v=>c.setFld n (CT.setp (c.fld n) p v)
termination_by structural _ p=>p
def CT.fits:CT->Ty->Bool
 |.dat U _,T=>decide (U=T)
 |.nil,.sl _ _=>true
 |.arr _,.sl _ _=>true
 |.sub _ _ _,.sl _ _=>true
 |.bor _ _,.sl _ _=>true
 |.bptr _ _ _,.op=>true
 |.eptr _ _ _,.op=>true
 |.dptr _ _,.op=>true
 |.clo _ _,.op=>true
 |.fn _ _ _ _,.op=>true
 |.unit,.unit=>true
 |.pair a b,.pair A B=>a.fits A&&b.fits B
 |.undef,T=>!T.isSt
 |_,_=>false
def pN:Ty->CT
 |.sl _ _=>.nil
 |.op=>.undef
 |.pair a b=>bif (Ty.pair a b).flat then .dat (.pair a b) (Ty.zero (.pair a b)) else .pair (pN a) (pN b)
 |T=>.dat T T.zero
def Ty.nth:Ty->Nat->Option Ty
 |.pair a _,0=>some a
 |.pair _ b,n+1=>b.nth n
 |_,_=>none
def Ty.atn:Ty->List Nat->Option Ty
 |T,[]=>some T
 |T,n::p=>match T.nth n with
  |some U=>U.atn p
  |none=>none
termination_by structural _ p=>p
abbrev hY:Nat:=4294967296
def aX{α:Type}(lo hi:Nat)(xs:List α):List α:=(xs.drop lo).take (hi-lo)
def mR:(T:Ty)->CT->M T.D
 |T,.dat U x=>oV T U x
 |.sl _ _,.nil=>.ret []
 |.sl t e,.arr o=>.get o fun
  |some (.arr t' e' xs)=>oV (.sl t e) (.sl t' e') xs
  |_=>.fail
 |.sl t e,.sub o lo hi=>.get o fun
  |some (.arr t' e' xs)=>oV (.sl t e) (.sl t' e') (aX (α:=e'.D) lo hi xs)
  |_=>.fail
 |.sl t e,.bor o p=>.get o fun
  |some (.arr t' e' xs)=>oV (.sl t e) ((Ty.sl t' e').get p xs).T ((Ty.sl t' e').get p xs).x
  |_=>.fail
 |.unit,.unit=>.ret ()
 |.pair a b,.pair c d=>(mR a c).bind fun x=>(mR b d).bind fun y=>.ret (x,y)
 |_,_=>.fail
def tC:(T:Ty)->CT->M T.D
 |T,.dat U x=>oV T U x
 |.sl _ _,.nil=>.ret []
 |.unit,.unit=>.ret ()
 |.pair a b,.pair c d=>(tC a c).bind fun x=>(tC b d).bind fun y=>.ret (x,y)
 |_,_=>.fail
def mC:(T:Ty)->CT->M (T.D×List Nat)
 |.sl _ _,.nil=>.ret ([],[])
 |.sl t e,.arr o=>.get o fun
  |some (.arr t' e' xs)=>(oV (.sl t e) (.sl t' e') xs).bind fun x=>.ret (x,[o])
  |_=>.fail
 |.sl t e,.sub o lo hi=>.get o fun
  |some (.arr t' e' xs)=>(oV (.sl t e) (.sl t' e') (aX (α:=e'.D) lo hi xs)).bind fun x=>.ret (x,[o])
  |_=>.fail
 |.unit,.unit=>.ret ((),[])
 |.pair a b,.pair c d=>(mC a c).bind fun x=>(mC b d).bind fun y=>.ret ((x.1,y.1),x.2++y.2)
 |T,.dat U x=>bif U.flat then(oV T U x).bind fun y=>.ret (y,[]) else .fail
 |_,_=>.fail
def vI:Md->(T:Ty)->CT->M (T.D×List Nat)
 |.f,T,c=>(tC T c).bind fun x=>.ret (x,[])
 |.o,T,c=>mC T c
 |.pair m n,.pair a b,.pair c d=>(vI m a c).bind fun x=>(vI n b d).bind fun y=>.ret ((x.1,y.1),x.2++y.2)
 |.pair _ _,T,.dat U x=>bif U.flat then(oV T U x).bind fun y=>.ret (y,[]) else .fail
 |_,_,_=>.fail
structure Mk where
 c:CT
 objs:List (Nat×Obj)
 n:Nat
def lZ:(T:Ty)->T.D->Nat->Mk
 |.sl t e,xs,n=>⟨.arr n,[(n,.arr t e xs)],n+1⟩
 |.pair a b,x,n=>bif (Ty.pair a b).flat then⟨.dat (.pair a b) x,[],n⟩ else
  match lZ a x.1 n with
  |⟨c,l,n'⟩=>match lZ b x.2 n' with
   |⟨d,r,n''⟩=>⟨.pair c d,l++r,n''⟩
 |T,x,n=>⟨.dat T x,[],n⟩
def mB:Md->(T:Ty)->T.D->Nat->Mk
 |.f,T,x,n=>⟨.dat T x,[],n⟩
 |.o,T,x,n=>lZ T x n
 |.pair m k,.pair a b,x,n=>
  match mB m a x.1 n with
  |⟨c,l,n'⟩=>match mB k b x.2 n' with
   |⟨d,r,n''⟩=>⟨.pair c d,l++r,n''⟩
 |.pair _ _,T,x,n=>⟨.dat T x,[],n⟩
 |.np _,T,x,n=>⟨.dat T x,[],n⟩
def mkR:Md->(T:Ty)->T.D->Nat->Mk
 |.np m,T,x,n=>match mB m T x (n+1) with
  |⟨c,l,n'⟩=>⟨.bptr n [] T,(n,.box T c)::l,n'⟩
 |.f,T,x,n=>mB .f T x n
 |.o,T,x,n=>mB .o T x n
 |.pair a b,T,x,n=>mB (.pair a b) T x n
structure sY where
 val:SV
 upd:List (Nat×Obj)
 kill:Option (List Nat)
def gone(l:List Nat):List (Nat×Obj):=l.map fun o=>(o,.dead)
def tY:List Nat->M Unit
 |[]=>.ret ()
 |o::r=>bif Nat.blt o 10000000 then(.get o fun
  |none=>tY r
  |some _=>.fail) else .fail
def aBJ(n:Nat):Nat->List Nat
 |0=>[]
 |k+1=>n::aBJ (n+1) k
def ok(c:CT):M sY:=.ret ⟨.one c,[],none⟩
def intBits(op:BinOp)(k:IntKind)(x y:Int):Int:=
 match op with
 |.and=>k.wrap (BitVec.ofInt k.bits x&&&BitVec.ofInt k.bits y).toNat
 |.or=>k.wrap (BitVec.ofInt k.bits x|||BitVec.ofInt k.bits y).toNat
 |.xor=>k.wrap (BitVec.ofInt k.bits x^^^BitVec.ofInt k.bits y).toNat
 |_=>k.wrap (BitVec.ofInt k.bits x&&&~~~ BitVec.ofInt k.bits y).toNat
def aJh(op:BinOp)(k:IntKind)(x y:Int):M sY:=
 match op with
 |.add=>ok (.dat (.int k) (k.wrap (x+y)))
 |.sub=>ok (.dat (.int k) (k.wrap (x-y)))
 |.mul=>ok (.dat (.int k) (k.wrap (x*y)))
 |.quo=>.chk (!decide (y=0)) (ok (.dat (.int k) (k.wrap (x.tdiv y))))
 |.rem=>.chk (!decide (y=0)) (ok (.dat (.int k) (x.tmod y)))
 |.and|.or|.xor|.andNot=>ok (.dat (.int k) (intBits op k x y))
 |.eql=>ok (.dat .bool (decide (x=y)))
 |.neq=>ok (.dat .bool (!decide (x=y)))
 |.lss=>ok (.dat .bool (decide (x<y)))
 |.leq=>ok (.dat .bool (decide (x<=y)))
 |.gtr=>ok (.dat .bool (decide (y<x)))
 |.geq=>ok (.dat .bool (decide (y<=x)))
 |_=>.fail
def aDD(op:BinOp)(k:IntKind)(x y:Int):M sY:=
 match op with
 |.shl=>.chk (decide (0<=y)) (ok (.dat (.int k) (k.wrap (x*2^min y.toNat k.bits))))
 |.shr=>.chk (decide (0<=y)) (ok (.dat (.int k) (x.fdiv (2^min y.toNat k.bits))))
 |_=>.fail
def aJZ(op:BinOp)(x y:List UInt8):M sY:=
 match op with
 |.add=>.chk (decide (x.length+y.length<=hY)) (ok (.dat .str (x++y)))
 |.eql=>ok (.dat .bool (x==y))
 |.neq=>ok (.dat .bool (!(x==y)))
 |_=>.fail
def Ty.cmp:Ty->Bool
 |.int _=>true
 |.bool=>true
 |.str=>true
 |.unit=>true
 |.pair a b=>a.cmp&&b.cmp
 |_=>false
def Ty.dep:Ty->Nat
 |.pair a b=>max (a.dep+1) b.dep
 |_=>0
def aLz(op:BinOp)(T:Option Ty)(x y:SV):M sY:=
 match x,y with
 |.one (.dat (.int k) a),.one (.dat (.int k') b)=>
  match op with
  |.shl=>aDD .shl k a b
  |.shr=>aDD .shr k a b
  |op=>bif decide (k=k') then aJh op k a b else .fail
 |.one (.dat .str a),.one (.dat .str b)=>aJZ op a b
 |.one (.dat .bool a),.one (.dat .bool b)=>
  match T,op with
  |some .bool,.eql=>ok (.dat .bool (a==b))
  |some .bool,.neq=>ok (.dat .bool (!(a==b)))
  |_,_=>.fail
 |.one c,.one d=>
  match T with
  |none=>.fail
  |some T=>bif T.isSt&&T.cmp&&Nat.blt T.dep 9000 then
   (mR T c).bind fun a=>(mR T d).bind fun b=>
    match op with
    |.eql=>ok (.dat .bool (T.beq a b))
    |.neq=>ok (.dat .bool (!(T.beq a b)))
    |_=>.fail
   else .fail
 |_,_=>.fail
def nB(s:List UInt8):List Int:=s.map fun b=>(b.toNat:Int)
def vX(l:List Int):List UInt8:=l.map fun n=>UInt8.ofNat n.toNat
def aHX(A B:Option Ty)(x:SV)(n:Nat):M sY:=
 match A,B,x with
 |some (.int _),some (.int k),.one (.dat (.int _) a)=>ok (.dat (.int k) (k.wrap a))
 |some .str,some .str,.one (.dat .str s)=>ok (.dat .str s)
 |some (.sl t (.int .u8)),some .str,.one c=>(mR (.sl t (.int .u8)) c).bind fun l=>ok (.dat .str (vX l))
 |some .str,some (.sl t (.int .u8)),.one (.dat .str s)=>.chk (decide (s.length<=hY)) ((tY [n]).bind fun _=>.ret ⟨.one (.arr n),[(n,.arr t (.int .u8) (nB s))],none⟩)
 |_,_,_=>.fail
def asInt:SV->Option (IntKind×Int)
 |.one (.dat (.int k) n)=>some (k,n)
 |_=>none
inductive Wi where
 |par (k:Nat)|clo (f:FuncId) (ks:List Nat)
inductive Sr where
 |arg (i:Nat)|cap (i j:Nat)|of (j:Nat)
structure aCu where
 f:FuncId
 g:FuncId
 s:FS
 real:List Wi
 src:List Sr
structure fG where
 θ:List (TypeId×Ty)
 Γ:List (FuncId×FS)
 Δ:List aCu
def fG.ty(E:fG)(t:TypeId):Option Ty:=find E.θ t
def fG.fs(E:fG)(f:FuncId):Option FS:=find E.Γ f
def aK3:List aCu->FuncId->FuncId->Option aCu
 |[],_,_=>none
 |e::r,f,g=>bif Nat.beq e.f f&&Nat.beq e.g g then some e else aK3 r f g
def fG.fw(E:fG)(f g:FuncId):Option aCu:=aK3 E.Δ f g
structure aBL(ps:List PM) where
 xs:mN ps
 go:List Nat
 use:List Nat
 back:wG ps->Nat->List (Nat×Obj)×Nat
 kl:List Nat
def CT.ids:CT->List Nat
 |.arr o=>[o]
 |.sub o _ _=>[o]
 |.bor o _=>[o]
 |.pair a b=>a.ids++b.ids
 |_=>[]
def wB:(T:Ty)->CT->T.D->List (Nat×Obj)
 |.sl t e,.arr o,x=>[(o,.arr t e x)]
 |.pair a b,.pair c d,x=>wB a c x.1++wB b d x.2
 |_,_,_=>[]
def CT.onlyArr:CT->Bool
 |.arr _=>true
 |.dat U _=>U.flat
 |.unit=>true
 |.pair a b=>a.onlyArr&&b.onlyArr
 |_=>false
def Ty.flatEl:Ty->Bool
 |.sl _ e=>e.flat
 |.pair a b=>a.flatEl&&b.flatEl
 |T=>T.flat
def aEB:(T:Ty)->CT->M (T.D×List Nat)
 |T,.dptr U x=>(oV T U x).bind fun y=>.ret (y,[])
 |T,.bptr o p U=>bif decide (U=T) then .get o fun
  |some (.box _ c)=>(mR T (c.atp p)).bind fun y=>.ret (y,o::(c.atp p).ids)
  |_=>.fail
  else .fail
 |_,_=>.fail
def xJ:(ps:List PM)->CT->M (mN ps×List Nat)
 |[],.unit=>.ret ((),[])
 |.val T .f::ps,.pair c r=>(mR T c).bind fun x=>(xJ ps r).bind fun y=>.ret ((x,y.1),c.ids++y.2)
 |.peek T::ps,.pair c r=>(aEB T c).bind fun x=>(xJ ps r).bind fun y=>.ret ((x.1,y.1),x.2++y.2)
 |_,_=>.fail
def Md.plain:Md->Bool
 |.np _=>false
 |_=>true
def aHt(A B:Ty)(s:FS)(caps:CT):M (((A.D->Bool)×(A.D->B.D))×List Nat):=
 match s with
 |⟨.val A' .f::ps,[(B',md)],pre,fn⟩=>
  if h:A'=A/\B'=B/\B'.flat=true/\md.plain=true then
   (xJ ps caps).bind fun y=>.ret ((fun x=>pre (h.1▸x,y.1),fun x=>h.2.1▸(fn (h.1▸x,y.1)).2.1),y.2)
  else .fail
 |_=>.fail
def aGJ(frz:Bool)(l:List Nat):Bool:=!frz||l.isEmpty
structure aIk(T:Ty) where
 x:T.D
 ids:List Nat
 back:T.D->List (Nat×Obj)
 kl:List Nat
def aLu(o:Nat)(p:List iW):(T:Ty)->M (aIk T)
 |.sl t e=>bif e.flat then .get o fun
  |some (.arr t' e' xs)=>(oV (.sl t e) ((Ty.sl t' e').get p xs).T ((Ty.sl t' e').get p xs).x).bind fun x=>
   .ret ⟨x,[o],fun y=>[(o,.arr t' e' ((Ty.sl t' e').set p xs ⟨.sl t e,y⟩))],[o]⟩
  |_=>.fail
  else .fail
 |_=>.fail
def aKQ(T:Ty)(c:CT):M (aIk T):=
 match c with
 |.bor o p=>aLu o p T
 |c=>bif c.onlyArr then(mC T c).bind fun x=>.ret ⟨x.1,x.2,wB T c,bif T.flatEl then[] else x.2⟩ else .fail
def Obj.noBox:Obj->Bool
 |.box _ _=>false
 |_=>true
def oZ(Γ:FuncId->Option FS)(frz:Bool):(ps:List PM)->List CT->M (aBL ps)
 |[],[]=>.ret ⟨(),[],[],fun _ n=>([],n),[]⟩
 |.val T .f::ps,c::cs=>
  (bif frz then tC T c else mR T c).bind fun x=>(oZ Γ frz ps cs).bind fun r=>
   .ret ⟨(x,r.xs),r.go,c.ids++r.use,r.back,r.kl⟩
 |.val T m::ps,c::cs=>
  (vI m T c).bind fun x=>(oZ Γ frz ps cs).bind fun r=>
   .ret ⟨(x.1,r.xs),x.2++r.go,r.use,fun o n=>match r.back o n with|(l,k)=>(gone x.2++l,k),r.kl⟩
 |.mut T::ps,c::cs=>
  (aKQ T c).bind fun x=>(oZ Γ frz ps cs).bind fun r=>
   .ret ⟨(x.x,r.xs),x.ids++r.go,r.use,fun o n=>match r.back o.2 n with|(l,k)=>(x.back o.1++l,k),x.kl++r.kl⟩
 |.ref T m::ps,.bptr o p U::cs=>bif decide (U=T) then
  .get o fun
   |some (.box V c)=>(vI m T (c.atp p)).bind fun x=>(oZ Γ frz ps cs).bind fun r=>
    .ret ⟨(x.1,r.xs),o::x.2++r.go,r.use,fun q n=>
     match mB m T q.1 n with
     |⟨d,l,n'⟩=>match r.back q.2 n' with
      |(l',k)=>(gone x.2++((o,.box V (c.setp p d))::l)++l',k),r.kl⟩
   |_=>.fail
  else .fail
 |.fn A B::ps,.clo f caps::cs=>match Γ f with
  |some s=>(aHt A B s caps).bind fun g=>bif aGJ frz g.2 then(oZ Γ frz ps cs).bind fun r=>.ret ⟨(g.1,r.xs),r.go,g.2++r.use,r.back,r.kl⟩ else .fail
  |none=>.fail
 |.fn A B::ps,.fn A' B' pre g::cs=>if h:A'=A/\B'=B then(oZ Γ frz ps cs).bind fun r=>.ret ⟨((h.1▸pre,h.1▸h.2▸g),r.xs),r.go,r.use,r.back,r.kl⟩ else .fail
 |.peek T::ps,c::cs=>(aEB T c).bind fun x=>bif aGJ frz x.2 then(oZ Γ frz ps cs).bind fun r=>.ret ⟨(x.1,r.xs),r.go,x.2++r.use,r.back,r.kl⟩ else .fail
 |.cell _ _::ps,.bptr o p U::cs=>bif p.isEmpty&&decide (U=.op) then
  .get o fun
   |some (.box .op (.bptr q l T))=>(oZ Γ frz ps cs).bind fun r=>.ret ⟨r.xs,o::r.go,r.use,fun out n=>match r.back out n with|(u,k)=>((o,.box .op (.bptr q l T))::u,k),r.kl⟩
   |_=>.fail
  else .fail
 |.nil _ _::ps,.nil::cs=>(oZ Γ frz ps cs).bind fun r=>.ret ⟨r.xs,r.go,r.use,r.back,r.kl⟩
 |_,_=>.fail
def tB:List (Ty×Md)->Bool
 |[]=>false
 |(_,.o)::r=>tB r
 |(T,_)::r=>!T.flat||tB r
def mG:List PM->Bool
 |[]=>false
 |.ref _ .o::r=>mG r
 |.ref T _::r=>!T.flat||mG r
 |_::r=>mG r
def pA:(rs:List (Ty×Md))->Res rs->Nat->Mk
 |[],_,n=>⟨.unit,[],n⟩
 |(T,m)::rs,x,n=>
  match mkR m T x.1 n with
  |⟨c,l,n'⟩=>match pA rs x.2 n' with
   |⟨d,r,n''⟩=>⟨.pair c d,l++r,n''⟩
def aBO:CT->SV
 |.pair c .unit=>.one c
 |c=>.tup c
def tA:List Nat->Bool
 |[]=>true
 |o::r=>!(r.any fun q=>Nat.beq q o)&&tA r
def aBR(Γ:FuncId->Option FS)(s:FS)(cs:List CT)(n:Nat):M sY:=
 (oZ Γ (tB s.rs||mG s.ps) s.ps cs).bind fun r=>
  bif tA r.go&&!(r.use.any fun o=>r.go.any fun q=>Nat.beq q o) then
   .chk (s.pre r.xs)
    (match s.fn r.xs with
     |(o,y)=>match r.back o n with
      |(l,n')=>match pA s.rs y n' with
       |⟨c,l',n''⟩=>(tY (aBJ n (n''-n))).bind fun _=>
        bif r.kl.isEmpty then .ret ⟨aBO c,l++l',none⟩ else bif (l++l').all (fun p=>p.2.noBox) then .ret ⟨aBO c,l++l',some r.kl⟩ else .fail)
  else .fail
def uG:CT->List CT
 |.pair a b=>a::uG b
 |_=>[]
def CT.same:CT->CT->Bool
 |.bptr o p T,.bptr o' p' T'=>Nat.beq o o'&&decide (p=p')&&decide (T=T')
 |_,_=>false
def aAc:List CT->Nat->CT
 |[],_=>.undef
 |a::_,0=>a
 |_::r,n+1=>aAc r n
def aCm:List CT->List CT->Bool
 |[],[]=>true
 |a::r,b::s=>a.same b&&aCm r s
 |_,_=>false
def Wi.fits(fl:List CT):Wi->CT->Bool
 |.par k,c=>c.same (aAc fl k)
 |.clo f ks,.clo g caps=>Nat.beq f g&&aCm (uG caps) (ks.map (aAc fl))
 |_,_=>false
def aAJ(fl:List CT):List Wi->List CT->Bool
 |[],[]=>true
 |a::r,c::cs=>a.fits fl c&&aAJ fl r cs
 |_,_=>false
def aJN(cs acc:List CT):Sr->M CT
 |.arg i=>.ret (aAc cs i)
 |.cap i j=>match aAc cs i with
  |.clo _ caps=>.ret (aAc (uG caps) j)
  |_=>.fail
 |.of j=>match aAc acc j with
  |.bptr o _ _=>.get o fun
   |some (.box _ c)=>.ret c
   |_=>.fail
  |_=>.fail
def aIc(cs:List CT):List Sr->List CT->M (List CT)
 |[],acc=>.ret acc
 |s::r,acc=>(aJN cs acc s).bind fun c=>aIc cs r (acc++[c])
def aDL(fl:List CT):List PM->List CT->M Unit
 |[],_=>.ret ()
 |.cell k _::ps,.bptr o p _::cs=>.get o fun
  |some (.box _ c)=>bif p.isEmpty&&c.same (aAc fl k) then aDL fl ps cs else .fail
  |_=>.fail
 |.cell _ _::_,_=>.fail
 |_::ps,_::cs=>aDL fl ps cs
 |_::_,[]=>.fail
def aGZ:List CT->Bool
 |[]=>true
 |.bptr _ _ _::r=>aGZ r
 |_=>false
def aGF(Γ:FuncId->Option FS)(e:aCu)(cs:List CT)(n:Nat):M sY:=
 (aIc cs e.src []).bind fun fl=>
  bif aAJ fl e.real cs&&aGZ fl then(aDL fl e.s.ps fl).bind fun _=>aBR Γ e.s fl n else .fail
def aHk:List CT->Option FuncId
 |[]=>none
 |.clo g _::_=>some g
 |_::r=>aHk r
def xV:List CT->CT
 |[]=>.unit
 |c::r=>.pair c (xV r)
def CT.isDef:CT->Bool
 |.undef=>false
 |.skip=>false
 |_=>true
def CT.comp:CT->Nat->Option CT
 |.pair a _,0=>some a
 |.pair _ b,n+1=>b.comp n
 |_,_=>none
def aEM:List SV->Option (List CT)
 |[]=>some []
 |.one c::r=>bif c.isDef then match aEM r with
  |some l=>some (c::l)
  |none=>none else none
 |_=>none
def aJm(t:TypeId)(e:Ty)(c:CT):M (List e.D×List Nat):=
 match c with
 |.dat _ _=>.fail
 |c=>mC (.sl t e) c
def aHv(t:TypeId)(e:Ty)(d:CT):M (List e.D×List Nat):=
 match e,d with
 |.int .u8,.dat .str s=>.ret (nB s,[])
 |e,d=>bif e.flat then(mR (.sl t e) d).bind fun y=>.ret (y,[]) else mC (.sl t e) d
def aL3:Option Ty->Bool
 |some (.sl _ _)=>true
 |some .str=>true
 |_=>false
def aCl(T U:Option Ty)(x y:SV)(n:Nat):M sY:=
 match T,x,y with
 |some (.sl t e),.one c,.one d=>bif aL3 U&&e.told then
  (aJm t e c).bind fun a=>(aHv t e d).bind fun b=>
   bif tA (a.2++b.2) then
    .chk (decide (length (α:=e.D) a.1+length (α:=e.D) b.1<=hY))
     ((tY [n]).bind fun _=>.ret ⟨.one (.arr n),gone a.2++gone b.2++[(n,.arr t e (List.append (α:=e.D) a.1 b.1))],none⟩)
   else .fail
  else .fail
 |_,_,_=>.fail
def aHo(T:Option Ty)(x i:SV):M sY:=
 match T,x,i with
 |some (.sl t e),.one c,.one (.dat (.int _) n)=>
  match c with
  |.dat U xs=>(oV (.sl t e) U xs).bind fun xs=>
   .chk (decide (0<=n)) (.chk (decide (n<(length (α:=e.D) xs:Int))) (ok (.dptr e (List.getD (α:=e.D) xs n.toNat e.zero))))
  |.arr o=>.get o fun
   |some (.arr t' e' xs)=>bif decide (Ty.sl t' e'=Ty.sl t e) then
    .chk (decide (0<=n)) (.chk (decide (n<(length (α:=e'.D) xs:Int))) (ok (.eptr o [.i n.toNat] e')))
    else .fail
   |some (.rng t' e' m _)=>bif decide (Ty.sl t' e'=Ty.sl t e) then
    .chk (decide (0<=n)) (.chk (decide (n<((m:Nat):Int))) (ok (.eptr o [.i n.toNat] e')))
    else .fail
   |_=>.fail
  |.bor o p=>.get o fun
   |some (.arr t' e' xs)=>match((Ty.sl t' e').get p xs) with
    |⟨.sl u d,ys⟩=>bif decide (Ty.sl u d=Ty.sl t e) then
     .chk (decide (0<=n)) (.chk (decide (n<(length (α:=d.D) ys:Int))) (ok (.eptr o (p++[.i n.toNat]) d)))
     else .fail
    |_=>.fail
   |_=>.fail
  |_=>.fail
 |_,_,_=>.fail
def bnd(σ:Operand->SV):Option Operand->Option (Option Int)
 |none=>some none
 |some x=>match σ x with
  |.one (.dat (.int _) n)=>some (some n)
  |_=>none
def aGM(T:Option Ty)(x:SV)(lo hi mx:Option Int):M sY:=
 match T,x with
 |some .str,.one (.dat .str s)=>
  match mx with
  |some _=>.fail
  |none=>
   let h:=hi.getD s.length
   let l:=lo.getD 0
   .chk (decide (0<=l)) (.chk (decide (l<=h)) (.chk (decide (h<=s.length)) (ok (.dat .str (aX l.toNat h.toNat s)))))
 |some (.sl t e),.one c=>
  match c with
  |.nil=>match mx with
   |some _=>.fail
   |none=>.chk (decide (lo.getD 0=0)) (.chk (decide (hi.getD 0=0)) (ok .nil))
  |.dat U xs=>(oV (.sl t e) U xs).bind fun xs=>
   let h:=hi.getD (length (α:=e.D) xs)
   let l:=lo.getD 0
   match mx with
   |some _=>.fail
   |none=>.chk (decide (0<=l)) (.chk (decide (l<=h)) (.chk (decide (h<=length (α:=e.D) xs)) (ok (.dat (.sl t e) (aX (α:=e.D) l.toNat h.toNat xs)))))
  |.arr o=>.get o fun
   |some (.arr t' e' xs)=>bif decide (Ty.sl t' e'=Ty.sl t e) then
    let h:=hi.getD (length (α:=e'.D) xs)
    let l:=lo.getD 0
    match mx with
    |some m=>match hi with
     |none=>.fail
     |some _=>.chk (decide (0<=l)) (.chk (decide (l<=h)) (.chk (decide (h<=m)) (.chk (decide (m<=length (α:=e'.D) xs)) (ok (.sub o l.toNat h.toNat)))))
    |none=>.chk (decide (0<=l)) (.chk (decide (l<=h)) (.chk (decide (h<=length (α:=e'.D) xs)) (ok (.sub o l.toNat h.toNat))))
    else .fail
   |_=>.fail
  |_=>.fail
 |_,_=>.fail
def aKu(T:Option Ty)(x:SV):M sY:=
 match T,x with
 |some .str,.one (.dat .str s)=>ok (.dat (.int .i64) (length (α:=UInt8) s:Int))
 |some (.sl _ _),.one (.dat (.sl _ e) xs)=>ok (.dat (.int .i64) (length (α:=e.D) xs:Int))
 |some (.sl _ _),.one .nil=>ok (.dat (.int .i64) (0:Int))
 |some (.sl _ _),.one (.arr o)=>.get o fun
  |some (.arr _ e xs)=>ok (.dat (.int .i64) (length (α:=e.D) xs:Int))
  |some (.rng _ _ m _)=>ok (.dat (.int .i64) ((m:Nat):Int))
  |_=>.fail
 |some (.sl _ _),.one (.sub o lo hi)=>.get o fun
  |some (.arr _ _ _)=>ok (.dat (.int .i64) ((hi-lo:Nat):Int))
  |_=>.fail
 |some (.sl _ _),.one (.bor o p)=>.get o fun
  |some (.arr t e xs)=>match((Ty.sl t e).get p xs) with
   |⟨.sl _ u,ys⟩=>ok (.dat (.int .i64) (length (α:=u.D) ys:Int))
   |_=>.fail
  |_=>.fail
 |_,_=>.fail
def aEN(mx:Bool):List SV->M sY
 |[]=>.fail
 |.one (.dat (.int k) a)::r=>go k a r
 |_=>.fail
where
 go (k:IntKind) (a:Int):List SV->M sY
 |[]=>ok (.dat (.int k) a)
 |.one (.dat (.int k') b)::r=>bif decide (k=k') then go k (if(bif mx then decide (a<b) else decide (b<a))=true then b else a) r else .fail
 |_=>.fail
def pU(o:Nat):(T:Ty)->Option Nat->List iW->T.D->CT
 |.pair a b,none,p,x=>bif (Ty.pair a b).flat then .dat (.pair a b) x else .pair (pU o a none (p++[.f 0]) x.1) (pU o b (some 1) p x.2)
 |.pair a b,some n,p,x=>.pair (pU o a none (p++[.f n]) x.1) (pU o b (some (n+1)) p x.2)
 |.unit,_,_,_=>.unit
 |.sl _ _,none,p,_=>.bor o p
 |.sl _ _,some _,_,_=>.undef
 |.op,_,_,_=>.undef
 |.int k,_,_,x=>.dat (.int k) x
 |.bool,_,_,x=>.dat .bool x
 |.str,_,_,x=>.dat .str x
def aG0(T:Ty)(o:Nat)(p:List iW)(t:TypeId)(e:Ty)(m:Nat)(xs:List e.D)(n:Nat):M sY:=
 match p with
 |[.i k]=>(oV (.sl t T) (.sl t e) xs).bind fun ys=>
  .chk (decide (k+length (α:=T.D) ys=m)) (.chk (decide ((0:Int)<(length (α:=T.D) ys:Int)))
   (match lZ T (List.getD (α:=T.D) ys 0 T.zero) n with
    |⟨c,l,n'⟩=>(tY (aBJ n (n'-n))).bind fun _=>.ret ⟨.one c,(o,.rng t T m (List.tail ys))::l,none⟩))
 |_=>.fail
def aGC(T:Option Ty)(a:SV)(n:Nat):M sY:=
 match T,a with
 |some T,.one (.bptr o p U)=>.get o fun
  |some (.box _ c)=>bif decide (U=T)&&(c.atp p).fits T then ok (c.atp p) else .fail
  |_=>.fail
 |some T,.one (.dptr U x)=>bif decide (U=T) then ok (.dat U x) else .fail
 |some T,.one (.eptr o p U)=>.get o fun
  |some (.arr t e xs)=>bif decide (U=T) then
   (oV T ((Ty.sl t e).get p xs).T ((Ty.sl t e).get p xs).x).bind fun x=>ok (pU o T none p x)
   else .fail
  |some (.rng t e m xs)=>bif decide (U=T) then aG0 T o p t e m xs n else .fail
  |_=>.fail
 |_,_=>.fail
def aGX(T:Option Ty)(a v:SV):M sY:=
 match T,a,v with
 |some T,.one (.bptr o p U),.one c=>.get o fun
  |some (.box V d)=>bif decide (U=T)&&c.fits T&&c.isDef then .ret ⟨.one .skip,[(o,.box V (d.setp p c))],none⟩ else .fail
  |_=>.fail
 |some T,.one (.eptr o p U),.one c=>.get o fun
  |some (.arr t e xs)=>bif decide (U=T) then
   (mC T c).bind fun y=>bif tA (o::y.2) then .ret ⟨.one .skip,gone y.2++[(o,.arr t e ((Ty.sl t e).set p xs ⟨T,y.1⟩))],bif T.flat then none else some [o]⟩ else .fail
   else .fail
  |_=>.fail
 |_,_,_=>.fail
def aAq(T:Option Ty)(x:SV)(k:Nat):M sY:=
 match T,x with
 |some T,.one (.bptr o p U)=>match T.nth k with
  |some V=>bif decide (U=T)&&!Nat.beq V.sz 0 then ok (.bptr o (p++[k]) V) else .fail
  |none=>.fail
 |some T,.one (.eptr o p U)=>match T.nth k with
  |some V=>bif decide (U=T)&&!Nat.beq V.sz 0 then ok (.eptr o (p++[.f k]) V) else .fail
  |none=>.fail
 |some T,.one (.dptr U x)=>match T.nth k with
  |some V=>bif decide (U=T)&&!Nat.beq V.sz 0 then ok (.dptr (U.get [.f k] x).T (U.get [.f k] x).x) else .fail
  |none=>.fail
 |_,_=>.fail
def mM(σ:Operand->SV)(T:Ty):List (Nat×Operand)->CT->Option CT
 |[],c=>some c
 |(i,x)::r,c=>match σ x,T.nth i with
  |.one v,some U=>bif v.fits U&&v.isDef then mM σ T r (c.setFld i v) else none
  |_,_=>none
def pC(σ:Operand->SV)(e:Ty):List (Nat×Operand)->Nat->M (List e.D×List Nat)
 |[],_=>.ret ([],[])
 |(i,x)::r,k=>bif Nat.beq i k then
  match σ x with
  |.one c=>(mC e c).bind fun a=>(pC σ e r (k+1)).bind fun b=>.ret (a.1::b.1,a.2++b.2)
  |_=>.fail
  else .fail
def aEH(E:fG)(f:FuncId):Option FuncId->Option aCu
 |some g=>E.fw f g
 |none=>none
def qG{α:Type}(lo hi:Nat)(z:α)(xs:List α):List α:=xs.take lo++List.replicate (hi-lo) z++xs.drop hi
def aFr(T:Option Ty)(x:SV):M sY:=
 match T,x with
 |some (.sl t e),.one (.sub o lo hi)=>.get o fun
  |some (.arr t' e' xs)=>bif decide (Ty.sl t' e'=Ty.sl t e)&&(e'.flat&&e'.told) then .ret ⟨.tup .unit,[(o,.arr t' e' (qG (α:=e'.D) lo hi e'.zero xs))],none⟩ else .fail
  |_=>.fail
 |_,_=>.fail
def uU(T U:Option Ty)(x y:SV)(n:Nat):M sY:=
 match T,U,x,y with
 |some (.sl t e),some (.int _),.one .nil,.one (.dat (.int _) a)=>bif e.told then
  .chk (decide (0<=a)) (.chk (decide (a<=(hY:Int))) ((tY [n]).bind fun _=>.ret ⟨.one (.arr n),[(n,.arr t e (List.replicate (α:=e.D) a.toNat e.zero))],none⟩))
  else .fail
 |_,_,_,_=>.fail
def opM(E:fG)(n:Nat)(o:Oper)(σ:Operand->SV):M sY:=
 match o.op with
 |.move x=>.ret ⟨σ x,[],none⟩
 |.assign x=>.ret ⟨σ x,[],none⟩
 |.pick c a b=>match σ c with
  |.one (.dat .bool x)=>.br x (.ret ⟨σ a,[],none⟩) (.ret ⟨σ b,[],none⟩)
  |_=>.fail
 |.unOp op _ x=>match op,σ x with
  |.not,.one (.dat .bool b)=>ok (.dat .bool (!b))
  |.neg,.one (.dat (.int k) a)=>ok (.dat (.int k) (k.wrap (0-a)))
  |_,_=>.fail
 |.binOp op t x y _=>aLz op (E.ty t) (σ x) (σ y)
 |.convert s d x=>aHX (E.ty s) (E.ty d) (σ x) n
 |.makeFunc (.func f) first caps=>match first.toList,aEM (caps.toList.map σ) with
  |[],some l=>ok (.clo f (xV l))
  |_,_=>.fail
 |.alloc t=>match E.ty t with
  |some T=>bif T.told||decide (T=.op) then(tY [n]).bind fun _=>.ret ⟨.one (.bptr n [] T),[(n,.box T (pN T))],none⟩ else .fail
  |none=>.fail
 |.box t x=>match E.ty t,σ x with
  |some T,.one c=>bif c.fits T&&c.isDef then(tY [n]).bind fun _=>.ret ⟨.one (.bptr n [] T),[(n,.box T c)],none⟩ else .fail
  |_,_=>.fail
 |.build t ps=>match E.ty t with
  |some T=>match mM σ T ps.toList (pN T) with
   |some c=>bif T.isSt&&T.told then ok c else .fail
   |none=>.fail
  |none=>.fail
 |.buildSlice t len ps=>match E.ty t with
  |some (.sl t' e)=>bif Nat.beq len ps.toList.length&&Nat.ble (len*e.sz) 16777216&&Nat.ble len hY&&e.told then
   (pC σ e ps.toList 0).bind fun a=>bif tA a.2 then(tY [n]).bind fun _=>.ret ⟨.one (.arr n),gone a.2++[(n,.arr t' e a.1)],none⟩ else .fail
   else .fail
  |_=>.fail
 |.load t a=>aGC (E.ty t) (σ a) n
 |.store t a v=>aGX (E.ty t) (σ a) (σ v)
 |.nilCheck x=>match σ x with
  |.one (.bptr o p T)=>ok (.bptr o p T)
  |.one (.eptr o p T)=>ok (.eptr o p T)
  |.one (.dptr T x)=>ok (.dptr T x)
  |_=>.fail
 |.fieldAddr t x k=>aAq (E.ty t) (σ x) k
 |.field t x k=>match E.ty t,σ x with
  |some T,.one c=>match T.nth k with
   |some _=>bif c.fits T then ok (c.fld k) else .fail
   |none=>.fail
  |_,_=>.fail
 |.indexAddr t x i=>aHo (E.ty t) (σ x) (σ i)
 |.index t x i=>match E.ty t,σ x,σ i with
  |some .str,.one (.dat .str s),.one (.dat (.int _) k)=>
   .chk (decide (0<=k)) (.chk (decide (k<(length (α:=UInt8) s:Int))) (ok (.dat (.int .u8) ((List.getD (α:=UInt8) s k.toNat 0).toNat:Int))))
  |_,_,_=>.fail
 |.slice t x lo hi mx=>match bnd σ lo,bnd σ hi,bnd σ mx with
  |some l,some h,some m=>aGM (E.ty t) (σ x) l h m
  |_,_,_=>.fail
 |.extract x k=>match σ x with
  |.tup c=>match c.comp k with
   |some d=>ok d
   |none=>.fail
  |_=>.fail
 |.makeSlice t l c=>match E.ty t,σ l,σ c with
  |some (.sl t' e),.one (.dat (.int _) a),.one (.dat (.int _) b)=>bif e.told then
   .chk (decide (0<=a)) (.chk (decide (a<=b)) (.chk (decide (b<=(hY:Int)))
    ((tY [n]).bind fun _=>.ret ⟨.one (.arr n),[(n,.arr t' e (List.replicate (α:=e.D) a.toNat e.zero))],none⟩))) else .fail
  |_,_,_=>.fail
 |.call c=>match c.callee with
  |.builtin .len=>match c.args.toList,c.argTypes.toList with
   |[x],t::_=>aKu (E.ty t) (σ x)
   |_,_=>.fail
  |.builtin .append=>match c.args.toList,c.argTypes.toList with
   |[x,y],[t,u]=>match E.ty u with
    |some (.int _)=>uU (E.ty t) (E.ty u) (σ x) (σ y) n
    |_=>aCl (E.ty t) (E.ty u) (σ x) (σ y) n
   |_,_=>.fail
  |.builtin .cap=>match c.args.toList,c.argTypes.toList with
   |[x],t::_=>match E.ty t,σ x with
    |some (.sl _ _),.one .nil=>ok (.dat (.int .i64) (0:Int))
    |_,_=>.fail
   |_,_=>.fail
  |.builtin .clear=>match c.args.toList,c.argTypes.toList with
   |[x],[t]=>aFr (E.ty t) (σ x)
   |_,_=>.fail
  |.builtin .min=>aEN false (c.args.toList.map σ)
  |.builtin .max=>aEN true (c.args.toList.map σ)
  |.value (.func f)=>match aEM (c.args.toList.map σ) with
   |some cs=>match aEH E f (aHk cs) with
    |some e=>aGF E.fs e cs n
    |none=>match E.fs f with
     |some s=>aBR E.fs s cs n
     |none=>.fail
   |none=>.fail
  |.value (.tmp t)=>match σ (.tmp t),aEM (c.args.toList.map σ) with
   |.one (.clo f caps),some cs=>match E.fw f f with
    |some e=>aGF E.fs e (cs++uG caps) n
    |none=>match E.fs f with
     |some s=>aBR E.fs s (cs++uG caps) n
     |none=>.fail
   |.one (.fn A B pre g),some [c]=>(mR A c).bind fun x=>.chk (pre x) (ok (.dat B (g x)))
   |_,_=>.fail
  |_=>.fail
 |_=>.fail
end Go.Aw
