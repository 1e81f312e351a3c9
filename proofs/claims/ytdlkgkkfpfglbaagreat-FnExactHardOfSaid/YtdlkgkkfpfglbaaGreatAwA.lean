/-
 Data of a Go program as plain Lean data: kinds of values ('Ty'), what a value of a kind is in Lean ('Ty.D'), how it is read off memory.
-/
import Derived.Calls
import Derived.Orders
import Derived.Tactics
import Derived.KernelRfl
import GoSem.ClaimData
namespace Go.Aw
open Go.IntKind (wrap)
open List (length)
theorem Za {p : Prop} [Decidable p] : (decide p = true) = p := decide_eq_true_eq
theorem Zb (a b : Bool) : ((a && b) = true) = (a = true /\ b = true) := Bool.and_eq_true a b
theorem Zc {α : Type _} (a b : α) : (some a = some b) = (a = b) := Option.some.injEq a b
theorem Zd {p : Prop} [Decidable p] : p -> decide p = true := decide_eq_true
theorem Ze {p : Prop} [Decidable p] : decide p = true -> p := of_decide_eq_true
theorem Zf {α : Type _} {a b : List α} : (a ++ b).length = a.length + b.length := List.length_append
theorem Zg {α : Type _} {a : α} {l : List α} : (a :: l).length = l.length + 1 := rfl
theorem Zh {α : Type _} : ([] : List α).length = 0 := rfl
theorem Zi {α : Sort _} (b : Bool) (t e : α) : cond b t e = if b = true then t else e := Bool.cond_eq_ite ..
theorem Zj : (false = true) = False := Bool.false_eq_true
theorem Zk {α : Type _} (a b c : List α) : a ++ b ++ c = a ++ (b ++ c) := List.append_assoc a b c
theorem Zm {α : Type _} {l : List α} {i : Nat} (h : i < l.length) : l[i]? = some l[i] := List.getElem?_eq_getElem h
theorem Zn {α : Type _} {i : Nat} {l : List α} (h : i < l.length) : l.drop i = l[i] :: l.drop (i + 1) := List.drop_eq_getElem_cons h
theorem Zo {α : Type _} (y : α) {a : α} {l : List α} (h : a ∈ l) : a ∈ y :: l := List.mem_cons_of_mem y h
theorem Zp {α : Type _} {a : α} {s t : List α} : a ∈ s ++ t ↔ a ∈ s \/ a ∈ t := List.mem_append
theorem Zq {α : Type _} {a b : α} : a ∈ [b] ↔ a = b := List.mem_singleton
theorem Zr {α : Type _} {i : Nat} {l : List α} : (l.take i).length = min i l.length := List.length_take
theorem Zs {α : Type _} {i : Nat} {l : List α} : (l.drop i).length = l.length - i := List.length_drop
theorem Zt {α : Type _} {l : List α} {i : Nat} (h : l.length <= i) : l.drop i = [] := List.drop_eq_nil_of_le h
theorem Zu {α : Type _} {p : α -> Bool} {l : List α} : l.all p = true ↔ ∀ x, x ∈ l -> p x = true := List.all_eq_true
theorem Zv {p : Prop} [Decidable p] : (decide p = false) ↔ ¬p := decide_eq_false_iff_not
inductive Ty where
 |int (k:IntKind)|bool|str|op|sl (t:TypeId) (e:Ty)|unit|pair (a b:Ty)
 deriving DecidableEq,Inhabited
@[reducible] def Ty.D:Ty->Type
 |.int _=>Int
 |.bool=>Bool
 |.str=>List UInt8
 |.op=>Unit
 |.sl _ e=>List e.D
 |.unit=>Unit
 |.pair a b=>a.D×b.D
def Ty.sz:Ty->Nat
 |.unit=>0
 |.pair a b=>a.sz+b.sz
 |_=>1
def Ty.zero:(T:Ty)->T.D
 |.int _=>(0:Int)
 |.bool=>false
 |.str=>[]
 |.op=>()
 |.sl _ _=>[]
 |.unit=>()
 |.pair a b=>(a.zero,b.zero)
def Ty.flat:Ty->Bool
 |.op=>false
 |.sl _ _=>false
 |.pair a b=>a.flat&&b.flat
 |_=>true
def Ty.told:Ty->Bool
 |.op=>false
 |.sl _ e=>e.told
 |.pair a b=>a.told&&b.told
 |_=>true
def Ty.isSt:Ty->Bool
 |.unit=>true
 |.pair _ _=>true
 |_=>false
def inK(k:IntKind)(n:Int):Prop:=k.min<=n/\n<=k.max
def blk(w:World)(b:Nat):Option (List Value):=
 match w.heap[b]? with
 |some (.cells c _ _)=>some c.toList
 |_=>none
def fX(l:List Value)(off n:Nat):List Value:=(l.drop off).take n
def vK(w:World)(Av:Nat->Prop):(T:Ty)->T.D->List Value->Prop
 |.int k,x,cs=>cs=[.int k x]/\inK k x
 |.bool,x,cs=>cs=[.bool x]
 |.str,x,cs=>cs=[.string ⟨x.toArray⟩]/\x.length<=maxLen
 |.op,_,_=>False
 |.sl _ e,xs,cs=>(cs=[.slice none 0 0]/\xs=[])\/
  ∃b off cap,∃sp:Option Nat,cs=[.slice (some ⟨b,off,sp⟩) (length (α:=e.D) xs) cap]/\length (α:=e.D) xs<=cap/\length (α:=e.D) xs<=maxLen/\
   (xs=[]\/(sp=none/\Av b/\∃l,blk w b=some l/\off+length (α:=e.D) xs*e.sz<=l.length/\
    ∀i (x:e.D),(xs:List e.D)[i]?=some x->vK w Av e x (fX l (off+i*e.sz) e.sz)))
 |.unit,_,cs=>cs=[]
 |.pair a b,x,cs=>∃c1 c2,cs=c1++c2/\vK w Av a x.1 c1/\vK w Av b x.2 c2
def xV(fr:Nat×Nat)(off n:Nat):Prop:=∀j,off<=j->j<off+n->¬(fr.1<=j/\j<fr.2)
def aNh(e:Ty)(cap:Nat)(fr:Nat×Nat):Prop:=cap<=maxLen/\(e=.int .u8\/fr=(0,0))
def qW(w:World):(T:Ty)->T.D->List Value->(Nat->Prop)->Prop
 |.sl _ e,xs,cs,F=>(cs=[.slice none 0 0]/\xs=[]/\∀q,¬F q)\/
  ∃b off cap c E fr,∃Fs:Nat->Nat->Prop,cs=[.slice (some ⟨b,off,none⟩) (length (α:=e.D) xs) cap]/\w.heap[b]?=some (.cells c E fr)/\
   length (α:=e.D) xs<=cap/\aNh e cap fr/\off+cap*e.sz<=c.size/\xV fr off (cap*e.sz)/\
   (∀q,F q↔(q=b\/∃i,i<length (α:=e.D) xs/\Fs i q))/\(∀i,i<length (α:=e.D) xs->¬Fs i b)/\
   (∀i j q,i<length (α:=e.D) xs->j<length (α:=e.D) xs->i≠j->Fs i q->¬Fs j q)/\
   ∀i (x:e.D),(xs:List e.D)[i]?=some x->qW w e x (fX c.toList (off+i*e.sz) e.sz) (Fs i)
 |.pair a b,x,cs,F=>∃c1 c2,∃F1 F2:Nat->Prop,cs=c1++c2/\(∀q,F q↔(F1 q\/F2 q))/\(∀q,F1 q->¬F2 q)/\qW w a x.1 c1 F1/\qW w b x.2 c2 F2
 |.int k,x,cs,F=>cs=[.int k x]/\inK k x/\∀q,¬F q
 |.bool,x,cs,F=>cs=[.bool x]/\∀q,¬F q
 |.str,x,cs,F=>cs=[.string ⟨x.toArray⟩]/\x.length<=maxLen/\∀q,¬F q
 |.op,_,_,_=>False
 |.unit,_,cs,F=>cs=[]/\∀q,¬F q
inductive qR where
 |f (n:Nat)|i (n:Nat)
 deriving DecidableEq,Inhabited
def Ty.at:Ty->List qR->Option Ty
 |T,[]=>some T
 |.pair a _,.f 0::p=>a.at p
 |.pair _ b,.f (n+1)::p=>b.at (.f n::p)
 |.sl _ e,.i _::p=>e.at p
 |_,_=>none
structure Dat where
 T:Ty
 x:T.D
def xX:Dat:=⟨.unit,()⟩
def Ty.get:(T:Ty)->List qR->T.D->Dat
 |T,[],x=>⟨T,x⟩
 |.pair a _,.f 0::p,x=>a.get p x.1
 |.pair _ b,.f (n+1)::p,x=>b.get (.f n::p) x.2
 |.sl _ e,.i n::p,xs=>e.get p (List.getD (α:=e.D) xs n e.zero)
 |_,_::_,_=>xX
def Ty.set:(T:Ty)->List qR->T.D->Dat->T.D
 |T,[],x,y=>if h:y.T=T then h▸y.x else x
 |.pair a _,.f 0::p,x,y=>(a.set p x.1 y,x.2)
 |.pair _ b,.f (n+1)::p,x,y=>(x.1,b.set (.f n::p) x.2 y)
 |.sl _ e,.i n::p,xs,y=>List.modify (α:=e.D) xs n fun z=>e.set p z y
 |_,_::_,x,_=>x
theorem aGh{t:TypeId}{e:Ty}{n:Nat}{p:List qR}{xs:List e.D}{y:Dat}:(Ty.sl t e).set (.i n::p) xs y=List.set (α:=e.D) xs n (e.set p (List.getD (α:=e.D) xs n e.zero) y):=by
 show List.modify xs n _=_
 apply List.ext_getElem?
 intro j
 rw[List.getElem?_modify,List.getElem?_set]
 by_cases h:n=j
 . subst h
   rcases Nat.lt_or_ge n xs.length with hl|hl
   . simp[List.getD_eq_getElem?_getD,hl]
   . simp[List.getElem?_eq_none hl,Nat.not_lt.2 hl]
 . simp[h]
def Ty.beq:(T:Ty)->T.D->T.D->Bool
 |.int _,x,y=>decide (x=y)
 |.bool,x,y=>x==y
 |.str,x,y=>(x:List UInt8)==y
 |.pair a .unit,x,y=>a.beq x.1 y.1
 |.pair a b,x,y=>a.beq x.1 y.1&&b.beq x.2 y.2
 |_,_,_=>true
structure vF(w w':World):Prop where
 size:w.heap.size<=w'.heap.size
 os:w'.os=w.os
 tape:w'.tape=w.tape
 output:w'.output=w.output
theorem vF.rfl'(w:World):vF w w:=⟨Nat.le_refl _,rfl,rfl,rfl⟩
theorem vF.trans{a b c:World}(h:vF a b)(k:vF b c):vF a c:=⟨Nat.le_trans h.size k.size,k.os.trans h.os,k.tape.trans h.tape,k.output.trans h.output⟩
structure aDt(w w':World):Prop where
 size:w'.heap.size=w.heap.size
 os:w'.os=w.os
 tape:w'.tape=w.tape
 output:w'.output=w.output
theorem aDt.trans{a b c:World}(h:aDt a b)(k:aDt b c):aDt a c:=⟨k.size.trans h.size,k.os.trans h.os,k.tape.trans h.tape,k.output.trans h.output⟩
theorem aDt.grew{a b:World}(h:aDt a b):vF a b:=⟨Nat.le_of_eq h.size.symm,h.os,h.tape,h.output⟩
end Go.Aw
