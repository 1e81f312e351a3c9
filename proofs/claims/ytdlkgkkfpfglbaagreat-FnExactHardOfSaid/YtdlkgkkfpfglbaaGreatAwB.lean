/-
 The plain machine: it runs Go code on plain data; what is shared is never written, what is written belongs to one name.
-/
import Derived.Test.YtdlkgkkfpfglbaaGreatAwA
namespace Go.Aw
open Go.IntKind (wrap)
open List (length)
inductive CT where
 |undef|skip|nil|unit
 |dat (T:Ty) (x:T.D)
 |arr (o:Nat)
 |sub (o lo hi:Nat)
 |bor (o:Nat) (p:List qR)
 |bptr (o:Nat) (p:List Nat) (T:Ty)
 |eptr (o:Nat) (p:List qR) (T:Ty)
 |dptr (T:Ty) (x:T.D)
 |clo (f:FuncId) (caps:CT)
 |fn (A B:Ty) (pre:A.D->Bool) (g:A.D->B.D)
 |pair (a b:CT)
inductive SV where
 |one (c:CT)
 |tup (c:CT)
inductive Obj where
 |box (T:Ty) (c:CT)
 |arr (t:TypeId) (e:Ty) (xs:List e.D)
 |rng (t:TypeId) (e:Ty) (m:Nat) (xs:List e.D)
 |dead
structure St where
 slots:List SV
 objs:List (Nat×Obj)
inductive Md where
 |f|o|pair (a b:Md)
 |np (m:Md)
 deriving DecidableEq,Inhabited
inductive PM where
 |val (T:Ty) (m:Md)
 |mut (T:Ty)
 |ref (T:Ty) (m:Md)
 |fn (A B:Ty)
 |peek (T:Ty)
 |cell (k:Nat) (T:Ty)
 |nil (t:TypeId) (e:Ty)
@[reducible] def oC:List PM->Type
 |[]=>Unit
 |.val T _::ps=>T.D×oC ps
 |.mut T::ps=>T.D×oC ps
 |.ref T _::ps=>T.D×oC ps
 |.fn A B::ps=>((A.D->Bool)×(A.D->B.D))×oC ps
 |.peek T::ps=>T.D×oC ps
 |.cell _ _::ps=>oC ps
 |.nil _ _::ps=>oC ps
@[reducible] def yP:List PM->Type
 |[]=>Unit
 |.val _ _::ps=>yP ps
 |.mut T::ps=>T.D×yP ps
 |.ref T _::ps=>T.D×yP ps
 |.fn _ _::ps=>yP ps
 |.peek _::ps=>yP ps
 |.cell _ _::ps=>yP ps
 |.nil _ _::ps=>yP ps
@[reducible] def Res:List (Ty×Md)->Type
 |[]=>Unit
 |r::rs=>r.1.D×Res rs
structure FS where
 ps:List PM
 rs:List (Ty×Md)
 pre:oC ps->Bool
 fn:oC ps->yP ps×Res rs
inductive M(α:Type):Type where
 |ret (a:α)
 |fail
 |get (o:Nat) (k:Option Obj->M α)
 |chk (b:Bool) (m:M α)
 |br (b:Bool) (m n:M α)
def M.bind{α β:Type}:M α->(α->M β)->M β
 |.ret a,f=>f a
 |.fail,_=>.fail
 |.get o k,f=>.get o fun x=>(k x).bind f
 |.chk b m,f=>.chk b (m.bind f)
 |.br b m n,f=>.br b (m.bind f) (n.bind f)
instance:Monad M where
 pure:=M.ret
 bind:=M.bind
def find{α:Type}:List (Nat×α)->Nat->Option α
 |[],_=>none
 |(i,a)::r,o=>bif Nat.beq i o then some a else find r o
def put{α:Type}:List (Nat×α)->Nat->α->List (Nat×α)
 |[],o,a=>[(o,a)]
 |(i,b)::r,o,a=>bif Nat.beq i o then(i,a)::r else(i,b)::put r o a
def pZ(T U:Ty)(x:U.D):M T.D:=if h:U=T then .ret (h▸x) else .fail
def CT.fld:CT->Nat->CT
 |.dat (.pair a _) x,0=>.dat a x.1
 |.dat (.pair _ b) x,n+1=>CT.fld (.dat b x.2) n
 |.pair a _,0=>a
 |.pair _ b,n+1=>CT.fld b n
 |_,_=>.undef
termination_by structural _ n=>n
def CT.setFld:CT->Nat->CT->CT
 |.dat (.pair _ b) x,0,v=>.pair v (.dat b x.2)
 |.dat (.pair a b) x,n+1,v=>.pair (.dat a x.1) (CT.setFld (.dat b x.2) n v)
 |.pair _ b,0,v=>.pair v b
 |.pair a b,n+1,v=>.pair a (CT.setFld b n v)
 |c,_,_=>c
termination_by structural _ n=>n
def CT.atp:CT->List Nat->CT
 |c,[]=>c
 |c,n::p=>CT.atp (c.fld n) p
termination_by structural _ p=>p
def CT.setp:CT->List Nat->CT->CT
 |_,[],v=>v
 |c,n::p,v=>c.setFld n (CT.setp (c.fld n) p v)
termination_by structural _ p=>p
def CT.fits:CT->Ty->Bool
 |.dat U _,T=>decide (U=T)
 |.nil,.sl _ _=>true
 |.arr _,.sl _ _=>true
 |.sub _ _ _,.sl _ _=>true
 |.bor _ _,.sl _ _=>true
 |.bptr _ _ _,.op=>true
 |.eptr _ _ _,.op=>true
 |.dptr _ _,.op=>true
 |.clo _ _,.op=>true
 |.fn _ _ _ _,.op=>true
 |.unit,.unit=>true
 |.pair a b,.pair A B=>a.fits A&&b.fits B
 |.undef,T=>!T.isSt
 |_,_=>false
def rE:Ty->CT
 |.sl _ _=>.nil
 |.op=>.undef
 |.pair a b=>bif (Ty.pair a b).flat then .dat (.pair a b) (Ty.zero (.pair a b)) else .pair (rE a) (rE b)
 |T=>.dat T T.zero
def Ty.nth:Ty->Nat->Option Ty
 |.pair a _,0=>some a
 |.pair _ b,n+1=>b.nth n
 |_,_=>none
def Ty.atn:Ty->List Nat->Option Ty
 |T,[]=>some T
 |T,n::p=>match T.nth n with
  |some U=>U.atn p
  |none=>none
termination_by structural _ p=>p
abbrev lT:Nat:=4294967296
def bE{α:Type}(lo hi:Nat)(xs:List α):List α:=(xs.drop lo).take (hi-lo)
def oD:(T:Ty)->CT->M T.D
 |T,.dat U x=>pZ T U x
 |.sl _ _,.nil=>.ret []
 |.sl t e,.arr o=>.get o fun
  |some (.arr t' e' xs)=>pZ (.sl t e) (.sl t' e') xs
  |_=>.fail
 |.sl t e,.sub o lo hi=>.get o fun
  |some (.arr t' e' xs)=>pZ (.sl t e) (.sl t' e') (bE (α:=e'.D) lo hi xs)
  |_=>.fail
 |.sl t e,.bor o p=>.get o fun
  |some (.arr t' e' xs)=>pZ (.sl t e) ((Ty.sl t' e').get p xs).T ((Ty.sl t' e').get p xs).x
  |_=>.fail
 |.unit,.unit=>.ret ()
 |.pair a b,.pair c d=>(oD a c).bind fun x=>(oD b d).bind fun y=>.ret (x,y)
 |_,_=>.fail
def vA:(T:Ty)->CT->M T.D
 |T,.dat U x=>pZ T U x
 |.sl _ _,.nil=>.ret []
 |.unit,.unit=>.ret ()
 |.pair a b,.pair c d=>(vA a c).bind fun x=>(vA b d).bind fun y=>.ret (x,y)
 |_,_=>.fail
def nN:(T:Ty)->CT->M (T.D×List Nat)
 |.sl _ _,.nil=>.ret ([],[])
 |.sl t e,.arr o=>.get o fun
  |some (.arr t' e' xs)=>(pZ (.sl t e) (.sl t' e') xs).bind fun x=>.ret (x,[o])
  |_=>.fail
 |.sl t e,.sub o lo hi=>.get o fun
  |some (.arr t' e' xs)=>(pZ (.sl t e) (.sl t' e') (bE (α:=e'.D) lo hi xs)).bind fun x=>.ret (x,[o])
  |_=>.fail
 |.unit,.unit=>.ret ((),[])
 |.pair a b,.pair c d=>(nN a c).bind fun x=>(nN b d).bind fun y=>.ret ((x.1,y.1),x.2++y.2)
 |T,.dat U x=>bif U.flat then(pZ T U x).bind fun y=>.ret (y,[]) else .fail
 |_,_=>.fail
def xS:Md->(T:Ty)->CT->M (T.D×List Nat)
 |.f,T,c=>(vA T c).bind fun x=>.ret (x,[])
 |.o,T,c=>nN T c
 |.pair m n,.pair a b,.pair c d=>(xS m a c).bind fun x=>(xS n b d).bind fun y=>.ret ((x.1,y.1),x.2++y.2)
 |.pair _ _,T,.dat U x=>bif U.flat then(pZ T U x).bind fun y=>.ret (y,[]) else .fail
 |_,_,_=>.fail
structure Mk where
 c:CT
 objs:List (Nat×Obj)
 n:Nat
def nH:(T:Ty)->T.D->Nat->Mk
 |.sl t e,xs,n=>⟨.arr n,[(n,.arr t e xs)],n+1⟩
 |.pair a b,x,n=>bif (Ty.pair a b).flat then⟨.dat (.pair a b) x,[],n⟩ else
  match nH a x.1 n with
  |⟨c,l,n'⟩=>match nH b x.2 n' with
   |⟨d,r,n''⟩=>⟨.pair c d,l++r,n''⟩
 |T,x,n=>⟨.dat T x,[],n⟩
def nM:Md->(T:Ty)->T.D->Nat->Mk
 |.f,T,x,n=>⟨.dat T x,[],n⟩
 |.o,T,x,n=>nH T x n
 |.pair m k,.pair a b,x,n=>
  match nM m a x.1 n with
  |⟨c,l,n'⟩=>match nM k b x.2 n' with
   |⟨d,r,n''⟩=>⟨.pair c d,l++r,n''⟩
 |.pair _ _,T,x,n=>⟨.dat T x,[],n⟩
 |.np _,T,x,n=>⟨.dat T x,[],n⟩
def mkR:Md->(T:Ty)->T.D->Nat->Mk
 |.np m,T,x,n=>match nM m T x (n+1) with
  |⟨c,l,n'⟩=>⟨.bptr n [] T,(n,.box T c)::l,n'⟩
 |.f,T,x,n=>nM .f T x n
 |.o,T,x,n=>nM .o T x n
 |.pair a b,T,x,n=>nM (.pair a b) T x n
structure uM where
 val:SV
 upd:List (Nat×Obj)
 kill:Option (List Nat)
def gone(l:List Nat):List (Nat×Obj):=l.map fun o=>(o,.dead)
def vY:List Nat->M Unit
 |[]=>.ret ()
 |o::r=>bif Nat.blt o 10000000 then(.get o fun
  |none=>vY r
  |some _=>.fail) else .fail
def aCO(n:Nat):Nat->List Nat
 |0=>[]
 |k+1=>n::aCO (n+1) k
def ok(c:CT):M uM:=.ret ⟨.one c,[],none⟩
def intBits(op:BinOp)(k:IntKind)(x y:Int):Int:=
 match op with
 |.and=>k.wrap (BitVec.ofInt k.bits x&&&BitVec.ofInt k.bits y).toNat
 |.or=>k.wrap (BitVec.ofInt k.bits x|||BitVec.ofInt k.bits y).toNat
 |.xor=>k.wrap (BitVec.ofInt k.bits x^^^BitVec.ofInt k.bits y).toNat
 |_=>k.wrap (BitVec.ofInt k.bits x&&&~~~ BitVec.ofInt k.bits y).toNat
def aLM(op:BinOp)(k:IntKind)(x y:Int):M uM:=
 match op with
 |.add=>ok (.dat (.int k) (k.wrap (x+y)))
 |.sub=>ok (.dat (.int k) (k.wrap (x-y)))
 |.mul=>ok (.dat (.int k) (k.wrap (x*y)))
 |.quo=>.chk (!decide (y=0)) (ok (.dat (.int k) (k.wrap (x.tdiv y))))
 |.rem=>.chk (!decide (y=0)) (ok (.dat (.int k) (x.tmod y)))
 |.and|.or|.xor|.andNot=>ok (.dat (.int k) (intBits op k x y))
 |.eql=>ok (.dat .bool (decide (x=y)))
 |.neq=>ok (.dat .bool (!decide (x=y)))
 |.lss=>ok (.dat .bool (decide (x<y)))
 |.leq=>ok (.dat .bool (decide (x<=y)))
 |.gtr=>ok (.dat .bool (decide (y<x)))
 |.geq=>ok (.dat .bool (decide (y<=x)))
 |_=>.fail
def aE5(op:BinOp)(k:IntKind)(x y:Int):M uM:=
 match op with
 |.shl=>.chk (decide (0<=y)) (ok (.dat (.int k) (k.wrap (x*2^min y.toNat k.bits))))
 |.shr=>.chk (decide (0<=y)) (ok (.dat (.int k) (x.fdiv (2^min y.toNat k.bits))))
 |_=>.fail
def aM1(op:BinOp)(x y:List UInt8):M uM:=
 match op with
 |.add=>.chk (decide (x.length+y.length<=lT)) (ok (.dat .str (x++y)))
 |.eql=>ok (.dat .bool (x==y))
 |.neq=>ok (.dat .bool (!(x==y)))
 |_=>.fail
def Ty.cmp:Ty->Bool
 |.int _=>true
 |.bool=>true
 |.str=>true
 |.unit=>true
 |.pair a b=>a.cmp&&b.cmp
 |_=>false
def Ty.dep:Ty->Nat
 |.pair a b=>max (a.dep+1) b.dep
 |_=>0
def aO6(op:BinOp)(T:Option Ty)(x y:SV):M uM:=
 match x,y with
 |.one (.dat (.int k) a),.one (.dat (.int k') b)=>
  match op with
  |.shl=>aE5 .shl k a b
  |.shr=>aE5 .shr k a b
  |op=>bif decide (k=k') then aLM op k a b else .fail
 |.one (.dat .str a),.one (.dat .str b)=>aM1 op a b
 |.one (.dat .bool a),.one (.dat .bool b)=>
  match T,op with
  |some .bool,.eql=>ok (.dat .bool (a==b))
  |some .bool,.neq=>ok (.dat .bool (!(a==b)))
  |_,_=>.fail
 |.one c,.one d=>
  match T with
  |none=>.fail
  |some T=>bif T.isSt&&T.cmp&&Nat.blt T.dep 9000 then
   (oD T c).bind fun a=>(oD T d).bind fun b=>
    match op with
    |.eql=>ok (.dat .bool (T.beq a b))
    |.neq=>ok (.dat .bool (!(T.beq a b)))
    |_=>.fail
   else .fail
 |_,_=>.fail
def fT(s:List UInt8):List Int:=s.map fun b=>(b.toNat:Int)
def kX(l:List Int):List UInt8:=l.map fun n=>UInt8.ofNat n.toNat
def aJX(A B:Option Ty)(x:SV)(n:Nat):M uM:=
 match A,B,x with
 |some (.int _),some (.int k),.one (.dat (.int _) a)=>ok (.dat (.int k) (k.wrap a))
 |some .str,some .str,.one (.dat .str s)=>ok (.dat .str s)
 |some (.sl t (.int .u8)),some .str,.one c=>(oD (.sl t (.int .u8)) c).bind fun l=>ok (.dat .str (kX l))
 |some .str,some (.sl t (.int .u8)),.one (.dat .str s)=>.chk (decide (s.length<=lT)) ((vY [n]).bind fun _=>.ret ⟨.one (.arr n),[(n,.arr t (.int .u8) (fT s))],none⟩)
 |_,_,_=>.fail
def asInt:SV->Option (IntKind×Int)
 |.one (.dat (.int k) n)=>some (k,n)
 |_=>none
inductive Wi where
 |par (k:Nat)|clo (f:FuncId) (ks:List Nat)
inductive Sr where
 |arg (i:Nat)|cap (i j:Nat)|of (j:Nat)
structure uX where
 f:FuncId
 g:FuncId
 s:FS
 real:List Wi
 src:List Sr
structure eI where
 θ:List (TypeId×Ty)
 Γ:List (FuncId×FS)
 Δ:List uX
def eI.ty(E:eI)(t:TypeId):Option Ty:=find E.θ t
def eI.fs(E:eI)(f:FuncId):Option FS:=find E.Γ f
def aLq:List uX->FuncId->FuncId->Option uX
 |[],_,_=>none
 |e::r,f,g=>bif Nat.beq e.f f&&Nat.beq e.g g then some e else aLq r f g
def eI.fw(E:eI)(f g:FuncId):Option uX:=aLq E.Δ f g
structure aCK(ps:List PM) where
 xs:oC ps
 go:List Nat
 use:List Nat
 back:yP ps->Nat->List (Nat×Obj)×Nat
 kl:List Nat
def CT.ids:CT->List Nat
 |.arr o=>[o]
 |.sub o _ _=>[o]
 |.bor o _=>[o]
 |.pair a b=>a.ids++b.ids
 |_=>[]
def yS:(T:Ty)->CT->T.D->List (Nat×Obj)
 |.sl t e,.arr o,x=>[(o,.arr t e x)]
 |.pair a b,.pair c d,x=>yS a c x.1++yS b d x.2
 |_,_,_=>[]
def CT.onlyArr:CT->Bool
 |.arr _=>true
 |.dat U _=>U.flat
 |.unit=>true
 |.pair a b=>a.onlyArr&&b.onlyArr
 |_=>false
def Ty.flatEl:Ty->Bool
 |.sl _ e=>e.flat
 |.pair a b=>a.flatEl&&b.flatEl
 |T=>T.flat
def aFF:(T:Ty)->CT->M (T.D×List Nat)
 |T,.dptr U x=>(pZ T U x).bind fun y=>.ret (y,[])
 |T,.bptr o p U=>bif decide (U=T) then .get o fun
  |some (.box _ c)=>(oD T (c.atp p)).bind fun y=>.ret (y,o::(c.atp p).ids)
  |_=>.fail
  else .fail
 |_,_=>.fail
def aA7:(ps:List PM)->CT->M (oC ps×List Nat)
 |[],.unit=>.ret ((),[])
 |.val T .f::ps,.pair c r=>(oD T c).bind fun x=>(aA7 ps r).bind fun y=>.ret ((x,y.1),c.ids++y.2)
 |.peek T::ps,.pair c r=>(aFF T c).bind fun x=>(aA7 ps r).bind fun y=>.ret ((x.1,y.1),x.2++y.2)
 |_,_=>.fail
def Md.plain:Md->Bool
 |.np _=>false
 |_=>true
def aJh(A B:Ty)(s:FS)(caps:CT):M (((A.D->Bool)×(A.D->B.D))×List Nat):=
 match s with
 |⟨.val A' .f::ps,[(B',md)],pre,fn⟩=>
  if h:A'=A/\B'=B/\B'.flat=true/\md.plain=true then
   (aA7 ps caps).bind fun y=>.ret ((fun x=>pre (h.1▸x,y.1),fun x=>h.2.1▸(fn (h.1▸x,y.1)).2.1),y.2)
  else .fail
 |_=>.fail
def aHI(frz:Bool)(l:List Nat):Bool:=!frz||l.isEmpty
structure aKy(T:Ty) where
 x:T.D
 ids:List Nat
 back:T.D->List (Nat×Obj)
 kl:List Nat
def aNE(o:Nat)(p:List qR):(T:Ty)->M (aKy T)
 |.sl t e=>bif e.flat then .get o fun
  |some (.arr t' e' xs)=>(pZ (.sl t e) ((Ty.sl t' e').get p xs).T ((Ty.sl t' e').get p xs).x).bind fun x=>
   .ret ⟨x,[o],fun y=>[(o,.arr t' e' ((Ty.sl t' e').set p xs ⟨.sl t e,y⟩))],[o]⟩
  |_=>.fail
  else .fail
 |_=>.fail
def aMY(T:Ty)(c:CT):M (aKy T):=
 match c with
 |.bor o p=>aNE o p T
 |c=>bif c.onlyArr then(nN T c).bind fun x=>.ret ⟨x.1,x.2,yS T c,bif T.flatEl then[] else x.2⟩ else .fail
def Obj.noBox:Obj->Bool
 |.box _ _=>false
 |_=>true
def qF(Γ:FuncId->Option FS)(frz:Bool):(ps:List PM)->List CT->M (aCK ps)
 |[],[]=>.ret ⟨(),[],[],fun _ n=>([],n),[]⟩
 |.val T .f::ps,c::cs=>
  (bif frz then vA T c else oD T c).bind fun x=>(qF Γ frz ps cs).bind fun r=>
   .ret ⟨(x,r.xs),r.go,c.ids++r.use,r.back,r.kl⟩
 |.val T m::ps,c::cs=>
  (xS m T c).bind fun x=>(qF Γ frz ps cs).bind fun r=>
   .ret ⟨(x.1,r.xs),x.2++r.go,r.use,fun o n=>match r.back o n with|(l,k)=>(gone x.2++l,k),r.kl⟩
 |.mut T::ps,c::cs=>
  (aMY T c).bind fun x=>(qF Γ frz ps cs).bind fun r=>
   .ret ⟨(x.x,r.xs),x.ids++r.go,r.use,fun o n=>match r.back o.2 n with|(l,k)=>(x.back o.1++l,k),x.kl++r.kl⟩
 |.ref T m::ps,.bptr o p U::cs=>bif decide (U=T) then
  .get o fun
   |some (.box V c)=>(xS m T (c.atp p)).bind fun x=>(qF Γ frz ps cs).bind fun r=>
    .ret ⟨(x.1,r.xs),o::x.2++r.go,r.use,fun q n=>
     match nM m T q.1 n with
     |⟨d,l,n'⟩=>match r.back q.2 n' with
      |(l',k)=>(gone x.2++((o,.box V (c.setp p d))::l)++l',k),r.kl⟩
   |_=>.fail
  else .fail
 |.fn A B::ps,.clo f caps::cs=>match Γ f with
  |some s=>(aJh A B s caps).bind fun g=>bif aHI frz g.2 then(qF Γ frz ps cs).bind fun r=>.ret ⟨(g.1,r.xs),r.go,g.2++r.use,r.back,r.kl⟩ else .fail
  |none=>.fail
 |.fn A B::ps,.fn A' B' pre g::cs=>if h:A'=A/\B'=B then(qF Γ frz ps cs).bind fun r=>.ret ⟨((h.1▸pre,h.1▸h.2▸g),r.xs),r.go,r.use,r.back,r.kl⟩ else .fail
 |.peek T::ps,c::cs=>(aFF T c).bind fun x=>bif aHI frz x.2 then(qF Γ frz ps cs).bind fun r=>.ret ⟨(x.1,r.xs),r.go,x.2++r.use,r.back,r.kl⟩ else .fail
 |.cell _ _::ps,.bptr o p U::cs=>bif p.isEmpty&&decide (U=.op) then
  .get o fun
   |some (.box .op (.bptr q l T))=>(qF Γ frz ps cs).bind fun r=>.ret ⟨r.xs,o::r.go,r.use,fun out n=>match r.back out n with|(u,k)=>((o,.box .op (.bptr q l T))::u,k),r.kl⟩
   |_=>.fail
  else .fail
 |.nil _ _::ps,.nil::cs=>(qF Γ frz ps cs).bind fun r=>.ret ⟨r.xs,r.go,r.use,r.back,r.kl⟩
 |_,_=>.fail
def uQ:List (Ty×Md)->Bool
 |[]=>false
 |(_,.o)::r=>uQ r
 |(T,_)::r=>!T.flat||uQ r
def nP:List PM->Bool
 |[]=>false
 |.ref _ .o::r=>nP r
 |.ref T _::r=>!T.flat||nP r
 |_::r=>nP r
def qE:(rs:List (Ty×Md))->Res rs->Nat->Mk
 |[],_,n=>⟨.unit,[],n⟩
 |(T,m)::rs,x,n=>
  match mkR m T x.1 n with
  |⟨c,l,n'⟩=>match qE rs x.2 n' with
   |⟨d,r,n''⟩=>⟨.pair c d,l++r,n''⟩
def aD2:CT->SV
 |.pair c .unit=>.one c
 |c=>.tup c
def uW:List Nat->Bool
 |[]=>true
 |o::r=>!(r.any fun q=>Nat.beq q o)&&uW r
def aDc(Γ:FuncId->Option FS)(s:FS)(cs:List CT)(n:Nat):M uM:=
 (qF Γ (uQ s.rs||nP s.ps) s.ps cs).bind fun r=>
  bif uW r.go&&!(r.use.any fun o=>r.go.any fun q=>Nat.beq q o) then
   .chk (s.pre r.xs)
    (match s.fn r.xs with
     |(o,y)=>match r.back o n with
      |(l,n')=>match qE s.rs y n' with
       |⟨c,l',n''⟩=>(vY (aCO n (n''-n))).bind fun _=>
        bif r.kl.isEmpty then .ret ⟨aD2 c,l++l',none⟩ else bif (l++l').all (fun p=>p.2.noBox) then .ret ⟨aD2 c,l++l',some r.kl⟩ else .fail)
  else .fail
def vX:CT->List CT
 |.pair a b=>a::vX b
 |_=>[]
def CT.same:CT->CT->Bool
 |.bptr o p T,.bptr o' p' T'=>Nat.beq o o'&&decide (p=p')&&decide (T=T')
 |_,_=>false
def aBb:List CT->Nat->CT
 |[],_=>.undef
 |a::_,0=>a
 |_::r,n+1=>aBb r n
def aDz:List CT->List CT->Bool
 |[],[]=>true
 |a::r,b::s=>a.same b&&aDz r s
 |_,_=>false
def Wi.fits(fl:List CT):Wi->CT->Bool
 |.par k,c=>c.same (aBb fl k)
 |.clo f ks,.clo g caps=>Nat.beq f g&&aDz (vX caps) (ks.map (aBb fl))
 |_,_=>false
def aCh(fl:List CT):List Wi->List CT->Bool
 |[],[]=>true
 |a::r,c::cs=>a.fits fl c&&aCh fl r cs
 |_,_=>false
def aM3(cs acc:List CT):Sr->M CT
 |.arg i=>.ret (aBb cs i)
 |.cap i j=>match aBb cs i with
  |.clo _ caps=>.ret (aBb (vX caps) j)
  |_=>.fail
 |.of j=>match aBb acc j with
  |.bptr o _ _=>.get o fun
   |some (.box _ c)=>.ret c
   |_=>.fail
  |_=>.fail
def aJU(cs:List CT):List Sr->List CT->M (List CT)
 |[],acc=>.ret acc
 |s::r,acc=>(aM3 cs acc s).bind fun c=>aJU cs r (acc++[c])
def aE2(fl:List CT):List PM->List CT->M Unit
 |[],_=>.ret ()
 |.cell k _::ps,.bptr o p _::cs=>.get o fun
  |some (.box _ c)=>bif p.isEmpty&&c.same (aBb fl k) then aE2 fl ps cs else .fail
  |_=>.fail
 |.cell _ _::_,_=>.fail
 |_::ps,_::cs=>aE2 fl ps cs
 |_::_,[]=>.fail
def aJ0:List CT->Bool
 |[]=>true
 |.bptr _ _ _::r=>aJ0 r
 |_=>false
def aIq(Γ:FuncId->Option FS)(e:uX)(cs:List CT)(n:Nat):M uM:=
 (aJU cs e.src []).bind fun fl=>
  bif aCh fl e.real cs&&aJ0 fl then(aE2 fl e.s.ps fl).bind fun _=>aDc Γ e.s fl n else .fail
def aJg:List CT->Option FuncId
 |[]=>none
 |.clo g _::_=>some g
 |_::r=>aJg r
def aA9:List CT->CT
 |[]=>.unit
 |c::r=>.pair c (aA9 r)
def CT.isDef:CT->Bool
 |.undef=>false
 |.skip=>false
 |_=>true
def CT.comp:CT->Nat->Option CT
 |.pair a _,0=>some a
 |.pair _ b,n+1=>b.comp n
 |_,_=>none
def aGL:List SV->Option (List CT)
 |[]=>some []
 |.one c::r=>bif c.isDef then match aGL r with
  |some l=>some (c::l)
  |none=>none else none
 |_=>none
def aLa(t:TypeId)(e:Ty)(c:CT):M (List e.D×List Nat):=
 match c with
 |.dat _ _=>.fail
 |c=>nN (.sl t e) c
def aIP(t:TypeId)(e:Ty)(d:CT):M (List e.D×List Nat):=
 match e,d with
 |.int .u8,.dat .str s=>.ret (fT s,[])
 |e,d=>bif e.flat then(oD (.sl t e) d).bind fun y=>.ret (y,[]) else nN (.sl t e) d
def aNn:Option Ty->Bool
 |some (.sl _ _)=>true
 |some .str=>true
 |_=>false
def aDv(T U:Option Ty)(x y:SV)(n:Nat):M uM:=
 match T,x,y with
 |some (.sl t e),.one c,.one d=>bif aNn U&&e.told then
  (aLa t e c).bind fun a=>(aIP t e d).bind fun b=>
   bif uW (a.2++b.2) then
    .chk (decide (length (α:=e.D) a.1+length (α:=e.D) b.1<=lT))
     ((vY [n]).bind fun _=>.ret ⟨.one (.arr n),gone a.2++gone b.2++[(n,.arr t e (List.append (α:=e.D) a.1 b.1))],none⟩)
   else .fail
  else .fail
 |_,_,_=>.fail
def aIJ(T:Option Ty)(x i:SV):M uM:=
 match T,x,i with
 |some (.sl t e),.one c,.one (.dat (.int _) n)=>
  match c with
  |.dat U xs=>(pZ (.sl t e) U xs).bind fun xs=>
   .chk (decide (0<=n)) (.chk (decide (n<(length (α:=e.D) xs:Int))) (ok (.dptr e (List.getD (α:=e.D) xs n.toNat e.zero))))
  |.arr o=>.get o fun
   |some (.arr t' e' xs)=>bif decide (Ty.sl t' e'=Ty.sl t e) then
    .chk (decide (0<=n)) (.chk (decide (n<(length (α:=e'.D) xs:Int))) (ok (.eptr o [.i n.toNat] e')))
    else .fail
   |some (.rng t' e' m _)=>bif decide (Ty.sl t' e'=Ty.sl t e) then
    .chk (decide (0<=n)) (.chk (decide (n<((m:Nat):Int))) (ok (.eptr o [.i n.toNat] e')))
    else .fail
   |_=>.fail
  |.bor o p=>.get o fun
   |some (.arr t' e' xs)=>match((Ty.sl t' e').get p xs) with
    |⟨.sl u d,ys⟩=>bif decide (Ty.sl u d=Ty.sl t e) then
     .chk (decide (0<=n)) (.chk (decide (n<(length (α:=d.D) ys:Int))) (ok (.eptr o (p++[.i n.toNat]) d)))
     else .fail
    |_=>.fail
   |_=>.fail
  |_=>.fail
 |_,_,_=>.fail
def bnd(σ:Operand->SV):Option Operand->Option (Option Int)
 |none=>some none
 |some x=>match σ x with
  |.one (.dat (.int _) n)=>some (some n)
  |_=>none
def aIO(T:Option Ty)(x:SV)(lo hi mx:Option Int):M uM:=
 match T,x with
 |some .str,.one (.dat .str s)=>
  match mx with
  |some _=>.fail
  |none=>
   let h:=hi.getD s.length
   let l:=lo.getD 0
   .chk (decide (0<=l)) (.chk (decide (l<=h)) (.chk (decide (h<=s.length)) (ok (.dat .str (bE l.toNat h.toNat s)))))
 |some (.sl t e),.one c=>
  match c with
  |.nil=>match mx with
   |some _=>.fail
   |none=>.chk (decide (lo.getD 0=0)) (.chk (decide (hi.getD 0=0)) (ok .nil))
  |.dat U xs=>(pZ (.sl t e) U xs).bind fun xs=>
   let h:=hi.getD (length (α:=e.D) xs)
   let l:=lo.getD 0
   match mx with
   |some _=>.fail
   |none=>.chk (decide (0<=l)) (.chk (decide (l<=h)) (.chk (decide (h<=length (α:=e.D) xs)) (ok (.dat (.sl t e) (bE (α:=e.D) l.toNat h.toNat xs)))))
  |.arr o=>.get o fun
   |some (.arr t' e' xs)=>bif decide (Ty.sl t' e'=Ty.sl t e) then
    let h:=hi.getD (length (α:=e'.D) xs)
    let l:=lo.getD 0
    match mx with
    |some m=>match hi with
     |none=>.fail
     |some _=>.chk (decide (0<=l)) (.chk (decide (l<=h)) (.chk (decide (h<=m)) (.chk (decide (m<=length (α:=e'.D) xs)) (ok (.sub o l.toNat h.toNat)))))
    |none=>.chk (decide (0<=l)) (.chk (decide (l<=h)) (.chk (decide (h<=length (α:=e'.D) xs)) (ok (.sub o l.toNat h.toNat))))
    else .fail
   |_=>.fail
  |_=>.fail
 |_,_=>.fail
def aN3(T:Option Ty)(x:SV):M uM:=
 match T,x with
 |some .str,.one (.dat .str s)=>ok (.dat (.int .i64) (length (α:=UInt8) s:Int))
 |some (.sl _ _),.one (.dat (.sl _ e) xs)=>ok (.dat (.int .i64) (length (α:=e.D) xs:Int))
 |some (.sl _ _),.one .nil=>ok (.dat (.int .i64) (0:Int))
 |some (.sl _ _),.one (.arr o)=>.get o fun
  |some (.arr _ e xs)=>ok (.dat (.int .i64) (length (α:=e.D) xs:Int))
  |some (.rng _ _ m _)=>ok (.dat (.int .i64) ((m:Nat):Int))
  |_=>.fail
 |some (.sl _ _),.one (.sub o lo hi)=>.get o fun
  |some (.arr _ _ _)=>ok (.dat (.int .i64) ((hi-lo:Nat):Int))
  |_=>.fail
 |some (.sl _ _),.one (.bor o p)=>.get o fun
  |some (.arr t e xs)=>match((Ty.sl t e).get p xs) with
   |⟨.sl _ u,ys⟩=>ok (.dat (.int .i64) (length (α:=u.D) ys:Int))
   |_=>.fail
  |_=>.fail
 |_,_=>.fail
def aGb(mx:Bool):List SV->M uM
 |[]=>.fail
 |.one (.dat (.int k) a)::r=>go k a r
 |_=>.fail
where
 go (k:IntKind) (a:Int):List SV->M uM
 |[]=>ok (.dat (.int k) a)
 |.one (.dat (.int k') b)::r=>bif decide (k=k') then go k (if(bif mx then decide (a<b) else decide (b<a))=true then b else a) r else .fail
 |_=>.fail
def rI(o:Nat):(T:Ty)->Option Nat->List qR->T.D->CT
 |.pair a b,none,p,x=>bif (Ty.pair a b).flat then .dat (.pair a b) x else .pair (rI o a none (p++[.f 0]) x.1) (rI o b (some 1) p x.2)
 |.pair a b,some n,p,x=>.pair (rI o a none (p++[.f n]) x.1) (rI o b (some (n+1)) p x.2)
 |.unit,_,_,_=>.unit
 |.sl _ _,none,p,_=>.bor o p
 |.sl _ _,some _,_,_=>.undef
 |.op,_,_,_=>.undef
 |.int k,_,_,x=>.dat (.int k) x
 |.bool,_,_,x=>.dat .bool x
 |.str,_,_,x=>.dat .str x
def aIn(T:Ty)(o:Nat)(p:List qR)(t:TypeId)(e:Ty)(m:Nat)(xs:List e.D)(n:Nat):M uM:=
 match p with
 |[.i k]=>(pZ (.sl t T) (.sl t e) xs).bind fun ys=>
  .chk (decide (k+length (α:=T.D) ys=m)) (.chk (decide ((0:Int)<(length (α:=T.D) ys:Int)))
   (match nH T (List.getD (α:=T.D) ys 0 T.zero) n with
    |⟨c,l,n'⟩=>(vY (aCO n (n'-n))).bind fun _=>.ret ⟨.one c,(o,.rng t T m (List.tail ys))::l,none⟩))
 |_=>.fail
def aHL(T:Option Ty)(a:SV)(n:Nat):M uM:=
 match T,a with
 |some T,.one (.bptr o p U)=>.get o fun
  |some (.box _ c)=>bif decide (U=T)&&(c.atp p).fits T then ok (c.atp p) else .fail
  |_=>.fail
 |some T,.one (.dptr U x)=>bif decide (U=T) then ok (.dat U x) else .fail
 |some T,.one (.eptr o p U)=>.get o fun
  |some (.arr t e xs)=>bif decide (U=T) then
   (pZ T ((Ty.sl t e).get p xs).T ((Ty.sl t e).get p xs).x).bind fun x=>ok (rI o T none p x)
   else .fail
  |some (.rng t e m xs)=>bif decide (U=T) then aIn T o p t e m xs n else .fail
  |_=>.fail
 |_,_=>.fail
def aIR(T:Option Ty)(a v:SV):M uM:=
 match T,a,v with
 |some T,.one (.bptr o p U),.one c=>.get o fun
  |some (.box V d)=>bif decide (U=T)&&c.fits T&&c.isDef then .ret ⟨.one .skip,[(o,.box V (d.setp p c))],none⟩ else .fail
  |_=>.fail
 |some T,.one (.eptr o p U),.one c=>.get o fun
  |some (.arr t e xs)=>bif decide (U=T) then
   (nN T c).bind fun y=>bif uW (o::y.2) then .ret ⟨.one .skip,gone y.2++[(o,.arr t e ((Ty.sl t e).set p xs ⟨T,y.1⟩))],bif T.flat then none else some [o]⟩ else .fail
   else .fail
  |_=>.fail
 |_,_,_=>.fail
def aBC(T:Option Ty)(x:SV)(k:Nat):M uM:=
 match T,x with
 |some T,.one (.bptr o p U)=>match T.nth k with
  |some V=>bif decide (U=T)&&!Nat.beq V.sz 0 then ok (.bptr o (p++[k]) V) else .fail
  |none=>.fail
 |some T,.one (.eptr o p U)=>match T.nth k with
  |some V=>bif decide (U=T)&&!Nat.beq V.sz 0 then ok (.eptr o (p++[.f k]) V) else .fail
  |none=>.fail
 |some T,.one (.dptr U x)=>match T.nth k with
  |some V=>bif decide (U=T)&&!Nat.beq V.sz 0 then ok (.dptr (U.get [.f k] x).T (U.get [.f k] x).x) else .fail
  |none=>.fail
 |_,_=>.fail
def nY(σ:Operand->SV)(T:Ty):List (Nat×Operand)->CT->Option CT
 |[],c=>some c
 |(i,x)::r,c=>match σ x,T.nth i with
  |.one v,some U=>bif v.fits U&&v.isDef then nY σ T r (c.setFld i v) else none
  |_,_=>none
def qT(σ:Operand->SV)(e:Ty):List (Nat×Operand)->Nat->M (List e.D×List Nat)
 |[],_=>.ret ([],[])
 |(i,x)::r,k=>bif Nat.beq i k then
  match σ x with
  |.one c=>(nN e c).bind fun a=>(qT σ e r (k+1)).bind fun b=>.ret (a.1::b.1,a.2++b.2)
  |_=>.fail
  else .fail
def aH5(E:eI)(f:FuncId):Option FuncId->Option uX
 |some g=>E.fw f g
 |none=>none
def xR{α:Type}(lo hi:Nat)(z:α)(xs:List α):List α:=xs.take lo++List.replicate (hi-lo) z++xs.drop hi
def aH0(T:Option Ty)(x:SV):M uM:=
 match T,x with
 |some (.sl t e),.one (.sub o lo hi)=>.get o fun
  |some (.arr t' e' xs)=>bif decide (Ty.sl t' e'=Ty.sl t e)&&(e'.flat&&e'.told) then .ret ⟨.tup .unit,[(o,.arr t' e' (xR (α:=e'.D) lo hi e'.zero xs))],none⟩ else .fail
  |_=>.fail
 |_,_=>.fail
def xD(T U:Option Ty)(x y:SV)(n:Nat):M uM:=
 match T,U,x,y with
 |some (.sl t e),some (.int _),.one .nil,.one (.dat (.int _) a)=>bif e.told then
  .chk (decide (0<=a)) (.chk (decide (a<=(lT:Int))) ((vY [n]).bind fun _=>.ret ⟨.one (.arr n),[(n,.arr t e (List.replicate (α:=e.D) a.toNat e.zero))],none⟩))
  else .fail
 |_,_,_,_=>.fail
def opM(E:eI)(n:Nat)(o:Oper)(σ:Operand->SV):M uM:=
 match o.op with
 |.move x=>.ret ⟨σ x,[],none⟩
 |.assign x=>.ret ⟨σ x,[],none⟩
 |.pick c a b=>match σ c with
  |.one (.dat .bool x)=>.br x (.ret ⟨σ a,[],none⟩) (.ret ⟨σ b,[],none⟩)
  |_=>.fail
 |.unOp op _ x=>match op,σ x with
  |.not,.one (.dat .bool b)=>ok (.dat .bool (!b))
  |.neg,.one (.dat (.int k) a)=>ok (.dat (.int k) (k.wrap (0-a)))
  |_,_=>.fail
 |.binOp op t x y _=>aO6 op (E.ty t) (σ x) (σ y)
 |.convert s d x=>aJX (E.ty s) (E.ty d) (σ x) n
 |.makeFunc (.func f) first caps=>match first.toList,aGL (caps.toList.map σ) with
  |[],some l=>ok (.clo f (aA9 l))
  |_,_=>.fail
 |.alloc t=>match E.ty t with
  |some T=>bif T.told||decide (T=.op) then(vY [n]).bind fun _=>.ret ⟨.one (.bptr n [] T),[(n,.box T (rE T))],none⟩ else .fail
  |none=>.fail
 |.box t x=>match E.ty t,σ x with
  |some T,.one c=>bif c.fits T&&c.isDef then(vY [n]).bind fun _=>.ret ⟨.one (.bptr n [] T),[(n,.box T c)],none⟩ else .fail
  |_,_=>.fail
 |.build t ps=>match E.ty t with
  |some T=>match nY σ T ps.toList (rE T) with
   |some c=>bif T.isSt&&T.told then ok c else .fail
   |none=>.fail
  |none=>.fail
 |.buildSlice t len ps=>match E.ty t with
  |some (.sl t' e)=>bif Nat.beq len ps.toList.length&&Nat.ble (len*e.sz) 16777216&&Nat.ble len lT&&e.told then
   (qT σ e ps.toList 0).bind fun a=>bif uW a.2 then(vY [n]).bind fun _=>.ret ⟨.one (.arr n),gone a.2++[(n,.arr t' e a.1)],none⟩ else .fail
   else .fail
  |_=>.fail
 |.load t a=>aHL (E.ty t) (σ a) n
 |.store t a v=>aIR (E.ty t) (σ a) (σ v)
 |.nilCheck x=>match σ x with
  |.one (.bptr o p T)=>ok (.bptr o p T)
  |.one (.eptr o p T)=>ok (.eptr o p T)
  |.one (.dptr T x)=>ok (.dptr T x)
  |_=>.fail
 |.fieldAddr t x k=>aBC (E.ty t) (σ x) k
 |.field t x k=>match E.ty t,σ x with
  |some T,.one c=>match T.nth k with
   |some _=>bif c.fits T then ok (c.fld k) else .fail
   |none=>.fail
  |_,_=>.fail
 |.indexAddr t x i=>aIJ (E.ty t) (σ x) (σ i)
 |.index t x i=>match E.ty t,σ x,σ i with
  |some .str,.one (.dat .str s),.one (.dat (.int _) k)=>
   .chk (decide (0<=k)) (.chk (decide (k<(length (α:=UInt8) s:Int))) (ok (.dat (.int .u8) ((List.getD (α:=UInt8) s k.toNat 0).toNat:Int))))
  |_,_,_=>.fail
 |.slice t x lo hi mx=>match bnd σ lo,bnd σ hi,bnd σ mx with
  |some l,some h,some m=>aIO (E.ty t) (σ x) l h m
  |_,_,_=>.fail
 |.extract x k=>match σ x with
  |.tup c=>match c.comp k with
   |some d=>ok d
   |none=>.fail
  |_=>.fail
 |.makeSlice t l c=>match E.ty t,σ l,σ c with
  |some (.sl t' e),.one (.dat (.int _) a),.one (.dat (.int _) b)=>bif e.told then
   .chk (decide (0<=a)) (.chk (decide (a<=b)) (.chk (decide (b<=(lT:Int)))
    ((vY [n]).bind fun _=>.ret ⟨.one (.arr n),[(n,.arr t' e (List.replicate (α:=e.D) a.toNat e.zero))],none⟩))) else .fail
  |_,_,_=>.fail
 |.call c=>match c.callee with
  |.builtin .len=>match c.args.toList,c.argTypes.toList with
   |[x],t::_=>aN3 (E.ty t) (σ x)
   |_,_=>.fail
  |.builtin .append=>match c.args.toList,c.argTypes.toList with
   |[x,y],[t,u]=>match E.ty u with
    |some (.int _)=>xD (E.ty t) (E.ty u) (σ x) (σ y) n
    |_=>aDv (E.ty t) (E.ty u) (σ x) (σ y) n
   |_,_=>.fail
  |.builtin .cap=>match c.args.toList,c.argTypes.toList with
   |[x],t::_=>match E.ty t,σ x with
    |some (.sl _ _),.one .nil=>ok (.dat (.int .i64) (0:Int))
    |_,_=>.fail
   |_,_=>.fail
  |.builtin .clear=>match c.args.toList,c.argTypes.toList with
   |[x],[t]=>aH0 (E.ty t) (σ x)
   |_,_=>.fail
  |.builtin .min=>aGb false (c.args.toList.map σ)
  |.builtin .max=>aGb true (c.args.toList.map σ)
  |.value (.func f)=>match aGL (c.args.toList.map σ) with
   |some cs=>match aH5 E f (aJg cs) with
    |some e=>aIq E.fs e cs n
    |none=>match E.fs f with
     |some s=>aDc E.fs s cs n
     |none=>.fail
   |none=>.fail
  |.value (.tmp t)=>match σ (.tmp t),aGL (c.args.toList.map σ) with
   |.one (.clo f caps),some cs=>match E.fw f f with
    |some e=>aIq E.fs e (cs++vX caps) n
    |none=>match E.fs f with
     |some s=>aDc E.fs s (cs++vX caps) n
     |none=>.fail
   |.one (.fn A B pre g),some [c]=>(oD A c).bind fun x=>.chk (pre x) (ok (.dat B (g x)))
   |_,_=>.fail
  |_=>.fail
 |_=>.fail
end Go.Aw
