/-
 The plain machine: regions, loops, functions.
-/
import Derived.Test.YtpcdhadfpeojkaaGreatAwB
namespace Go.Aw
def setL {α : Type} : List α -> Nat -> α -> List α
 | [], _, _ => []
 | _ :: r, 0, a => a :: r
 | b :: r, n + 1, a => b :: setL r n a
def getL : List SV -> Nat -> SV
 | [], _ => .one .undef
 | a :: _, 0 => a
 | _ :: r, n + 1 => getL r n
def constSV : Value -> SV
 | .bool b => .one (.dat .bool b)
 | .int k n => bif decide (k.min <= n) && decide (n <= k.max) then .one (.dat (.int k) n) else .one .undef
 | .string s => bif decide (s.data.toList.length <= lim) then .one (.dat .str s.data.toList) else .one .undef
 | .slice none 0 0 => .one .nil
 | _ => .one .undef
def St.at (σ : St) : Operand -> SV
 | .tmp t => getL σ.slots t
 | .const v => constSV v
 | .func f => .one (.clo f .unit)
 | _ => .one .undef
def memB (n : Nat) : List Nat -> Bool
 | [] => false
 | m :: r => Nat.beq m n || memB n r
def isF : Step -> Bool
 | .f _ => true
 | .i _ => false
def shal : List Step -> Bool
 | .i _ :: p => p.all isF
 | _ => false
def CT.kill (o : List Nat) : CT -> CT
 | .bor q p => bif memB q o then .undef else .bor q p
 | .eptr q p T => bif memB q o && !shal p then .undef else .eptr q p T
 | .pair a b => .pair (a.kill o) (b.kill o)
 | .clo f c => .clo f (c.kill o)
 | c => c
def SV.kill (o : List Nat) : SV -> SV
 | .one c => .one (c.kill o)
 | .tup c => .tup (c.kill o)
def Obj.kill (o : List Nat) : Obj -> Obj
 | .box T c => .box T (c.kill o)
 | x => x
def putAll : List (Nat × Obj) -> List (Nat × Obj) -> List (Nat × Obj)
 | l, [] => l
 | l, (o, x) :: r => putAll (put l o x) r
def St.apply (σ : St) (dst : Option Tmp) (e : Eff) : St :=
 let objs := putAll σ.objs e.upd
 let slots := match dst with
  | some d => setL σ.slots d e.val
  | none => σ.slots
 match e.kill with
 | none => ⟨slots, objs⟩
 | some o => ⟨slots.map (SV.kill o), objs.map fun p => (p.1, p.2.kill o)⟩
structure Log where
 i : Nat
 reads : List Nat
 upd : List Nat
 kill : Bool
def M.run {α R : Type} (objs : List (Nat × Obj)) : M α -> List Nat -> (α -> List Nat -> Option R) -> Option R
 | .ret a, L, k => k a L
 | .fail, _, _ => none
 | .get o f, L, k => (f (find objs o)).run objs (o :: L) k
 | .chk b m, L, k => if b = true then m.run objs L k else none
 | .br b m n, L, k => if b = true then m.run objs L k else n.run objs L k
inductive Ex where
 | normal | exit (id : Nat) | ret
abbrev Kt (R : Type) := Ex -> St -> Option R
def guardOf (ops : List Oper) (σ : St) (o : Oper) : Option (Option (Bool × Bool × Tmp)) :=
 match o.guard with
 | none => some none
 | some (g, want) => match ops[g]? with
  | some p => match p.dst with
   | some d => match getL σ.slots d with
    | .one (.dat .bool x) => some (some (x, want, d))
    | .one .skip => some (some (!want, want, d))
    | _ => none
   | none => none
  | none => none
def isSkip : SV -> Bool
 | .one .skip => true
 | _ => false
def opsK {R : Type} (E : Env) (ops : List Oper) (base : Nat) : List Oper -> Nat -> St -> List Log -> (St -> List Log -> Option R) -> Option R
 | [], _, σ, L, k => k σ L
 | o :: rest, i, σ, L, k =>
  let one (σ : St) : Option R := (opM E (base + i * 32) o σ.at).run σ.objs [] fun e l =>
   opsK E ops base rest (i + 1) (σ.apply o.dst e) (⟨i, l, e.upd.map (·.1), e.kill.isSome⟩ :: L) k
  let no (σ : St) : Option R := opsK E ops base rest (i + 1) (σ.apply o.dst ⟨.one .skip, [], none⟩) (⟨i, [], [], false⟩ :: L) k
  match guardOf ops σ o with
  | none => none
  | some none => one σ
  | some (some (x, want, d)) =>
   bif isSkip (getL σ.slots d) then no σ
   else bif want then (if x = true then one ⟨setL σ.slots d (.one (.dat .bool true)), σ.objs⟩ else no ⟨setL σ.slots d (.one (.dat .bool false)), σ.objs⟩)
   else (if x = true then no ⟨setL σ.slots d (.one (.dat .bool true)), σ.objs⟩ else one ⟨setL σ.slots d (.one (.dat .bool false)), σ.objs⟩)
def looks (ops : List Oper) (o : Oper) : List Tmp :=
 (o.op.operands.toList.filterMap fun | .tmp t => some t | _ => none) ++
 (match o.guard with
  | some (g, _) => match ops[g]? with
   | some p => p.dst.toList
   | none => []
  | none => [])
def meetB (a b : List Nat) : Bool := a.any fun n => memB n b
def hasB (m j : Nat) : Bool := Nat.beq (Nat.land (Nat.shiftRight m j) 1) 1
def befores (ops : List Oper) : List Nat :=
 (ops.foldl (init := ([] : List Nat)) fun acc o =>
  acc ++ [o.after.toList.foldl (init := 0) fun s e => bif Region.binds .any e then Nat.lor (Nat.lor (Nat.shiftLeft 1 e.on) (acc.getD e.on 0)) s else s])
def apartOp (ops : List Oper) (x y : Oper) : Bool :=
 !meetB x.dst.toList (looks ops y) && !meetB y.dst.toList (looks ops x) && !meetB x.dst.toList y.dst.toList
def apartLog (x y : Log) : Bool :=
 !x.kill && !y.kill && !meetB x.upd (y.reads ++ y.upd) && !meetB y.upd x.reads
def backward (ops : List Oper) : Bool :=
 (ops.zipIdx).all fun p => p.1.after.toList.all fun e => !Region.binds .any e || Nat.blt e.on p.2
def orderOk (ops : List Oper) (L : List Log) : Bool :=
 let b := befores ops
 backward ops && L.all fun y => L.all fun x =>
  !Nat.blt x.i y.i || hasB (b.getD y.i 0) x.i ||
   (match ops[x.i]?, ops[y.i]? with
    | some p, some q => apartOp ops p q && apartLog x y
    | _, _ => false)
structure Hint where
 key : Nat
 keep : List Nat
 own : List (Nat × TypeId × Ty)
def CT.named : CT -> List Nat
 | .arr o => [o]
 | .sub o _ _ => [o]
 | .bor o _ => [o]
 | .bptr o _ _ => [o]
 | .eptr o _ _ => [o]
 | .clo _ c => c.named
 | .pair a b => a.named ++ b.named
 | _ => []
def SV.named : SV -> List Nat
 | .one c => c.named
 | .tup c => c.named
def CT.ren (π : List (Nat × Nat)) : CT -> CT
 | .arr o => match find π o with | some q => .arr q | none => .undef
 | .sub o l h => match find π o with | some q => .sub q l h | none => .undef
 | .bor o p => match find π o with | some q => .bor q p | none => .undef
 | .bptr o p T => match find π o with | some q => .bptr q p T | none => .undef
 | .eptr o p T => match find π o with | some q => .eptr q p T | none => .undef
 | .clo f c => .clo f (c.ren π)
 | .pair a b => .pair (a.ren π) (b.ren π)
 | c => c
def SV.ren (π : List (Nat × Nat)) : SV -> SV
 | .one c => .one (c.ren π)
 | .tup c => .tup (c.ren π)
def Obj.ren (π : List (Nat × Nat)) : Obj -> Obj
 | .box T c => .box T (c.ren π)
 | x => x
def CT.pack : CT -> CT
 | .pair a b => match a.pack, b.pack with
  | .dat A x, .dat B y => .dat (.pair A B) (x, y)
  | .dat A x, .unit => .dat (.pair A .unit) (x, ())
  | c, d => .pair c d
 | c => c
def Obj.named : Obj -> List Nat
 | .box _ c => c.named
 | _ => []
def fillNil (n : Nat) : CT -> Ty -> CT × List (Nat × Obj) × Nat
 | .nil, .sl t e => (.arr n, [(n, .arr t e [])], n + 1)
 | .pair a b, .pair A B =>
  match fillNil n a A with
  | (c, l, n') => match fillNil n' b B with
   | (d, r, n'') => (.pair c d, l ++ r, n'')
 | c, _ => (c, [], n)
def fillObjs (n : Nat) : List (Nat × Obj) -> List (Nat × Obj) × List (Nat × Obj) × Nat
 | [] => ([], [], n)
 | (o, .box T c) :: r =>
  match fillNil n c T with
  | (d, l, n') => match fillObjs n' r with
   | (r', l', n'') => ((o, .box T d.pack) :: r', l ++ l', n'')
 | (o, x) :: r => match fillObjs n r with
  | (r', l', n') => ((o, x) :: r', l', n')
def fillSlots (n : Nat) (own : List (Nat × TypeId × Ty)) : List SV -> Nat -> List SV × List (Nat × Obj) × Nat
 | [], _ => ([], [], n)
 | .one .nil :: r, i => match find own i with
  | some (t, e) => match fillSlots (n + 1) own r (i + 1) with
   | (r', l, n') => (.one (.arr n) :: r', (n, .arr t e []) :: l, n')
  | none => match fillSlots n own r (i + 1) with
   | (r', l, n') => (.one .nil :: r', l, n')
 | .one c :: r, i => match fillSlots n own r (i + 1) with
  | (r', l, n') => (.one c.pack :: r', l, n')
 | s :: r, i => match fillSlots n own r (i + 1) with
  | (r', l, n') => (s :: r', l, n')
def keepSlots (keep : List Nat) : List SV -> Nat -> List SV
 | [], _ => []
 | s :: r, i => (bif memB i keep then s else .one .undef) :: keepSlots keep r (i + 1)
def reach (objs : List (Nat × Obj)) : Nat -> List Nat -> List Nat -> List Nat
 | 0, _, acc => acc.reverse
 | _, [], acc => acc.reverse
 | n + 1, o :: todo, acc => bif memB o acc then reach objs n todo acc else
  match find objs o with
  | some .dead => reach objs n todo acc
  | some x => reach objs n (x.named ++ todo) (o :: acc)
  | none => reach objs n todo acc
def isArr : Option Obj -> Bool
 | some (.box _ _) => false
 | _ => true
def renum (objs : List (Nat × Obj)) : List Nat -> Nat -> List (Nat × Nat)
 | [], _ => []
 | o :: r, n => bif isArr (find objs o) && Nat.blt o 40000000 then (o, n) :: renum objs r (n + 1) else (o, o) :: renum objs r n
def pickObjs (objs : List (Nat × Obj)) (π : List (Nat × Nat)) : List (Nat × Nat) -> List (Nat × Obj)
 | [] => []
 | (o, q) :: r => match find objs o with
  | some x => (q, x.ren π) :: pickObjs objs π r
  | none => pickObjs objs π r
def St.keepOnly (σ : St) (keep : List Nat) : St := ⟨keepSlots keep σ.slots 0, σ.objs⟩
def St.fill (σ : St) (own : List (Nat × TypeId × Ty)) (n : Nat) : St :=
 match fillSlots n own σ.slots 0 with
 | (s, l, n') => match fillObjs n' σ.objs with
  | (os, l', n'') => bif Nat.ble 20000000 n && Nat.ble n'' 40000000 && (l ++ l').all (fun p => match find σ.objs p.1 with | none => true | some _ => false) then ⟨s, os ++ (l ++ l')⟩ else σ
def renOk (objs : List (Nat × Obj)) (π : List (Nat × Nat)) : Bool :=
 nodupB (π.map (·.1)) && nodupB (π.map (·.2)) && π.all fun p => (find objs p.1).isSome && (Nat.beq p.1 p.2 || (Nat.ble 20000000 p.2 && Nat.blt p.2 40000000))
def St.order (σ : St) : St :=
 let ids := reach σ.objs 1000 (σ.slots.flatMap SV.named) []
 let π := renum σ.objs ids 20000000
 bif renOk σ.objs π then ⟨σ.slots.map (SV.ren π), pickObjs σ.objs π π⟩ else σ
def firstRegion : Code -> Nat
 | .region id _ _ => id
 | .seq a _ => firstRegion a
 | .block _ c => firstRegion c
 | .loop c => firstRegion c
 | .cond _ a _ => firstRegion a
 | _ => 0
def St.norm (σ : St) : Option Hint -> St
 | none => σ
 | some h => ((σ.keepOnly h.keep).fill h.own 30000000).order
inductive ShC where
 | undef | skip | nil | unit
 | dat (T : Ty)
 | arr (o : Nat)
 | sub (o : Nat)
 | bor (o : Nat) (p : List (Option Nat))
 | bptr (o : Nat) (p : List Nat) (T : Ty)
 | eptr (o : Nat) (p : List (Option Nat)) (T : Ty)
 | dptr (T : Ty)
 | clo (f : FuncId) (caps : ShC)
 | fn (A B : Ty)
 | pair (a b : ShC)
@[reducible] def shP : List (Option Nat) -> Type -> Type
 | [], t => t
 | some _ :: r, t => shP r t
 | none :: r, t => Nat × shP r t
def mkP {t : Type} : (p : List (Option Nat)) -> shP p t -> List Step × t
 | [], x => ([], x)
 | some n :: r, x => match mkP r x with
  | (l, y) => (.f n :: l, y)
 | none :: r, x => match mkP r x.2 with
  | (l, y) => (.i x.1 :: l, y)
def viewP {t : Type} : (p : List (Option Nat)) -> List Step -> t -> Option (shP p t)
 | [], [], y => some y
 | some n :: r, .f m :: l, y => bif Nat.beq m n then viewP r l y else none
 | none :: r, .i m :: l, y => match viewP r l y with
  | some x => some (m, x)
  | none => none
 | _, _, _ => none
@[reducible] def ShC.D : ShC -> Type -> Type
 | .dat T, t => T.D × t
 | .sub _, t => Nat × Nat × t
 | .bor _ p, t => shP p t
 | .eptr _ p _, t => shP p t
 | .dptr T, t => T.D × t
 | .clo _ c, t => c.D t
 | .fn A B, t => (A.D -> Bool) × (A.D -> B.D) × t
 | .pair a b, t => a.D (b.D t)
 | _, t => t
def ShC.mk {t : Type} : (s : ShC) -> s.D t -> CT × t
 | .undef, y => (.undef, y)
 | .skip, y => (.skip, y)
 | .nil, y => (.nil, y)
 | .unit, y => (.unit, y)
 | .dat T, y => (.dat T y.1, y.2)
 | .arr o, y => (.arr o, y)
 | .sub o, y => (.sub o y.1 y.2.1, y.2.2)
 | .bor o p, y => match mkP p y with
  | (l, z) => (.bor o l, z)
 | .bptr o p T, y => (.bptr o p T, y)
 | .eptr o p T, y => match mkP p y with
  | (l, z) => (.eptr o l T, z)
 | .dptr T, y => (.dptr T y.1, y.2)
 | .clo f c, y => match ShC.mk c y with
  | (d, z) => (.clo f d, z)
 | .fn A B, y => (.fn A B y.1 y.2.1, y.2.2)
 | .pair a b, y => match ShC.mk a y with
  | (c, z) => match ShC.mk b z with
   | (d, u) => (.pair c d, u)
def ShC.view {t : Type} : (s : ShC) -> CT -> t -> Option (s.D t)
 | .undef, .undef, y => some y
 | .skip, .skip, y => some y
 | .nil, .nil, y => some y
 | .unit, .unit, y => some y
 | .dat T, .dat U x, y => if h : U = T then some (h ▸ x, y) else none
 | .arr o, .arr q, y => bif Nat.beq q o then some y else none
 | .sub o, .sub q l h, y => bif Nat.beq q o then some (l, h, y) else none
 | .bor o p, .bor q l, y => bif Nat.beq q o then viewP p l y else none
 | .bptr o p T, .bptr q l U, y => bif Nat.beq q o && decide (l = p) && decide (U = T) then some y else none
 | .eptr o p T, .eptr q l U, y => bif Nat.beq q o && decide (U = T) then viewP p l y else none
 | .dptr T, .dptr U x, y => if h : U = T then some (h ▸ x, y) else none
 | .clo f c, .clo g d, y => bif Nat.beq g f then ShC.view c d y else none
 | .fn A B, .fn A' B' p g, y => if h : A' = A /\ B' = B then some (h.1 ▸ p, h.1 ▸ h.2 ▸ g, y) else none
 | .pair a b, .pair c d, y => match ShC.view b d y with
  | some z => ShC.view a c z
  | none => none
 | _, _, _ => none
inductive ShS where
 | one (c : ShC) | tup (c : ShC)
@[reducible] def ShS.D : ShS -> Type -> Type
 | .one c, t => c.D t
 | .tup c, t => c.D t
def ShS.mk {t : Type} : (s : ShS) -> s.D t -> SV × t
 | .one c, y => match c.mk y with
  | (d, z) => (.one d, z)
 | .tup c, y => match c.mk y with
  | (d, z) => (.tup d, z)
def ShS.view {t : Type} : (s : ShS) -> SV -> t -> Option (s.D t)
 | .one c, .one d, y => c.view d y
 | .tup c, .tup d, y => c.view d y
 | _, _, _ => none
inductive ShO where
 | box (T : Ty) (c : ShC) | arr (t : TypeId) (e : Ty) | dead
@[reducible] def ShO.D : ShO -> Type -> Type
 | .box _ c, t => c.D t
 | .arr _ e, t => List e.D × t
 | .dead, t => t
def ShO.mk {t : Type} : (s : ShO) -> s.D t -> Obj × t
 | .box T c, y => match c.mk y with
  | (d, z) => (.box T d, z)
 | .arr u e, y => (.arr u e y.1, y.2)
 | .dead, y => (.dead, y)
def ShO.view {t : Type} : (s : ShO) -> Obj -> t -> Option (s.D t)
 | .box T c, .box U d, y => bif decide (U = T) then c.view d y else none
 | .arr u e, .arr u' e' xs, y => bif Nat.beq u' u then (if h : e' = e then some (h ▸ xs, y) else none) else none
 | .dead, .dead, y => some y
 | _, _, _ => none
@[reducible] def slotsD : List ShS -> Type -> Type
 | [], t => t
 | s :: r, t => s.D (slotsD r t)
@[reducible] def objsD : List (Nat × ShO) -> Type
 | [] => Unit
 | s :: r => s.2.D (objsD r)
def slotsMk {t : Type} : (l : List ShS) -> slotsD l t -> List SV × t
 | [], y => ([], y)
 | s :: r, y => match s.mk y with
  | (x, z) => match slotsMk r z with
   | (l, u) => (x :: l, u)
def slotsView {t : Type} : (l : List ShS) -> List SV -> t -> Option (slotsD l t)
 | [], [], y => some y
 | s :: r, x :: l, y => match slotsView r l y with
  | some z => s.view x z
  | none => none
 | _, _, _ => none
def objsMk : (l : List (Nat × ShO)) -> objsD l -> List (Nat × Obj)
 | [], _ => []
 | s :: r, y => match s.2.mk y with
  | (x, z) => (s.1, x) :: objsMk r z
def objsView : (l : List (Nat × ShO)) -> List (Nat × Obj) -> Option (objsD l)
 | [], [] => some ()
 | s :: r, x :: l => bif Nat.beq x.1 s.1 then match objsView r l with
  | some z => s.2.view x.2 z
  | none => none else none
 | _, _ => none
structure ShSt where
 slots : List ShS
 objs : List (Nat × ShO)
@[reducible] def ShSt.D (s : ShSt) : Type := slotsD s.slots (objsD s.objs)
def ShSt.mk' (s : ShSt) (x : s.D) : St :=
 match slotsMk s.slots x with
 | (l, y) => ⟨l, objsMk s.objs y⟩
def ShSt.view (s : ShSt) (σ : St) : Option s.D :=
 match objsView s.objs σ.objs with
 | some y => slotsView s.slots σ.slots y
 | none => none
def Ex.beq : Ex -> Ex -> Bool
 | .normal, .normal => true
 | .exit i, .exit j => Nat.beq i j
 | .ret, .ret => true
 | _, _ => false
structure OutC where
 ex : Ex
 hint : Hint
 sh : ShSt
@[reducible] def OutD : List OutC -> Type
 | [] => Empty
 | [o] => o.sh.D
 | o :: r => o.sh.D ⊕ OutD r
structure LC where
 key : Nat
 hint : Hint
 sh : ShSt
 outs : List OutC
 pre : sh.D -> Bool
 fn : sh.D -> OutD outs
def findLC : List LC -> Nat -> Option LC
 | [], _ => none
 | h :: r, k => bif Nat.beq h.key k then some h else findLC r k
def enterK {R : Type} (k : Kt R) : (os : List OutC) -> OutD os -> Option R
 | [], x => nomatch x
 | [o], x => k o.ex (o.sh.mk' x)
 | o :: o' :: r, x => Sum.elim (fun y => k o.ex (o.sh.mk' y)) (fun y => enterK k (o' :: r) y) x
def enter {R : Type} (os : List OutC) (x : OutD os) (k : Kt R) : Option R := enterK k os x
def viewOuts : (os : List OutC) -> Ex -> St -> Option (OutD os)
 | [], _, _ => none
 | [o], e, σ => bif o.ex.beq e then o.sh.view (σ.norm (some o.hint)) else none
 | o :: o' :: r, e, σ => match (bif o.ex.beq e then o.sh.view (σ.norm (some o.hint)) else none) with
  | some x => some (.inl x)
  | none => match viewOuts (o' :: r) e σ with
   | some y => some (.inr y)
   | none => none
def LC.round (l : LC) : Kt (l.sh.D ⊕ OutD l.outs) := fun e σ =>
 match e with
 | .normal => match l.sh.view (σ.norm (some l.hint)) with
  | some s => some (.inl s)
  | none => none
 | e => match viewOuts l.outs e σ with
  | some o => some (.inr o)
  | none => none
def exec {R : Type} (E : Env) (H : List LC) : Code -> St -> Kt R -> Option R
 | .skip, σ, k => k .normal σ
 | .region id ops draw, σ, k =>
  opsK E ops.toList (id * 8192) ops.toList 0 σ [] fun σ' L =>
   bif !draw || orderOk ops.toList L then k .normal σ' else none
 | .seq a b, σ, k => exec E H a σ fun e σ' =>
  match e with
  | .normal => exec E H b σ' k
  | e => k e σ'
 | .cond c x y, σ, k =>
  match σ.at c with
  | .one (.dat .bool b) => if b = true then exec E H x σ k else exec E H y σ k
  | _ => none
 | .block id c, σ, k => exec E H c σ fun e σ' =>
  match e with
  | .exit id' => bif Nat.beq id' id then k .normal σ' else k (.exit id') σ'
  | e => k e σ'
 | .loop c, σ, k =>
  match findLC H (firstRegion c) with
  | none => none
  | some l => match l.sh.view (σ.norm (some l.hint)) with
   | none => none
   | some s => if l.pre s = true then enter l.outs (l.fn s) k else none
 | .exit id, σ, k => k (.exit id) σ
 | .ret, σ, k => k .ret σ
 | _, _, _ => none
def LC.step (l : LC) (E : Env) (H : List LC) (c : Code) (s : l.sh.D) : Option (l.sh.D ⊕ OutD l.outs) := exec E H c (l.sh.mk' s) l.round
def Rounds {S O : Type} (pre : S -> Bool) (μ : S -> Nat) (fn : S -> O) (s : S) : Option (S ⊕ O) -> Prop
 | none => False
 | some (.inl s') => pre s' = true /\ μ s' < μ s /\ fn s' = fn s
 | some (.inr o) => o = fn s
def LoopOk (E : Env) (H : List LC) (c : Code) (l : LC) : Prop :=
 ∃ μ : l.sh.D -> Nat, ∀ s, l.pre s = true -> Rounds l.pre μ l.fn s (l.step E H c s)
def loopsOf : Code -> List Code
 | .seq a b => loopsOf a ++ loopsOf b
 | .cond _ a b => loopsOf a ++ loopsOf b
 | .block _ c => loopsOf c
 | .loop c => c :: loopsOf c
 | _ => []
def LoopsOk (E : Env) (H : List LC) (c : Code) : Prop := ∀ d ∈ loopsOf c, ∀ l, findLC H (firstRegion d) = some l -> LoopOk E H d l
structure Ini where
 cs : List SV
 objs : List (Nat × Obj)
def mkArgs : (ps : List PM) -> Args ps -> Nat -> Ini
 | [], _, _ => ⟨[], []⟩
 | .val T m :: ps, x, n => match mkMd m T x.1 (n + 1) with
  | ⟨c, l, _⟩ => match mkArgs ps x.2 (n + 64) with
   | ⟨cs, l'⟩ => ⟨.one c :: cs, l ++ l'⟩
 | .mut T :: ps, x, n => match mkOwn T x.1 (n + 30000001) with
  | ⟨c, l, _⟩ => match mkArgs ps x.2 (n + 64) with
   | ⟨cs, l'⟩ => ⟨.one c :: cs, l ++ l'⟩
 | .ref T m :: ps, x, n => match mkMd m T x.1 (n + 1) with
  | ⟨c, l, _⟩ => match mkArgs ps x.2 (n + 64) with
   | ⟨cs, l'⟩ => ⟨.one (.bptr n [] T) :: cs, (n, .box T c) :: l ++ l'⟩
 | .fn A B :: ps, x, n => match mkArgs ps x.2 (n + 64) with
  | ⟨cs, l'⟩ => ⟨.one (.fn A B x.1.1 x.1.2) :: cs, l'⟩
 | .peek T :: ps, x, n => match mkArgs ps x.2 (n + 64) with
  | ⟨cs, l'⟩ => ⟨.one (.dptr T x.1) :: cs, l'⟩
 | .cell _ _ :: ps, x, n => match mkArgs ps x (n + 64) with
  | ⟨cs, l'⟩ => ⟨.one (.bptr n [] .op) :: cs, (n, .box .op .undef) :: l'⟩
 | .nil _ _ :: ps, x, n => match mkArgs ps x (n + 64) with
  | ⟨cs, l'⟩ => ⟨.one .nil :: cs, l'⟩
def argsFit : (ps : List PM) -> Args ps -> Nat -> Bool
 | [], _, n => Nat.ble n 20000000
 | .val T m :: ps, x, n => Nat.ble (mkMd m T x.1 (n + 1)).n (n + 64) && argsFit ps x.2 (n + 64)
 | .mut T :: ps, x, n => Nat.ble (mkOwn T x.1 (n + 30000001)).n (n + 30000064) && argsFit ps x.2 (n + 64)
 | .ref T m :: ps, x, n => Nat.ble (mkMd m T x.1 (n + 1)).n (n + 64) && argsFit ps x.2 (n + 64)
 | .fn _ _ :: ps, x, n => argsFit ps x.2 (n + 64)
 | .peek _ :: ps, x, n => argsFit ps x.2 (n + 64)
 | .cell _ _ :: ps, x, n => argsFit ps x (n + 64)
 | .nil _ _ :: ps, x, n => argsFit ps x (n + 64)
def init (ps : List PM) (xs : Args ps) (ntmps : Nat) : St :=
 match mkArgs ps xs 10000000 with
 | ⟨cs, l⟩ => ⟨cs ++ List.replicate (ntmps - cs.length) (.one .skip), l⟩
def setCells : List PM -> Nat -> List (Nat × Obj) -> List (Nat × Obj)
 | [], _, l => l
 | .cell k T :: ps, n, l => put (setCells ps (n + 64) l) n (.box .op (.bptr (10000000 + 64 * k) [] T))
 | _ :: ps, n, l => setCells ps (n + 64) l
def nthS (l : List SV) (k : Nat) : CT := match getL l k with
 | .one c => c
 | _ => .undef
def Wi.slot (cs : List SV) : Wi -> SV
 | .par k => .one (nthS cs k)
 | .clo f ks => .one (.clo f (listCT (ks.map (nthS cs))))
def initW (ps : List PM) (real : List Wi) (xs : Args ps) (ntmps : Nat) : St :=
 match mkArgs ps xs 10000000 with
 | ⟨cs, l⟩ => ⟨real.map (Wi.slot cs) ++ List.replicate (ntmps - real.length) (.one .skip), setCells ps 10000000 l⟩
def cellsFit (all : List PM) : List PM -> Bool
 | [] => true
 | .cell k T :: ps => (match all[k]? with
  | some (.ref U _) => decide (U = T)
  | _ => false) && cellsFit all ps
 | .ref _ _ :: ps => cellsFit all ps
 | _ => false
def Wi.lt (n : Nat) : Wi -> Bool
 | .par k => Nat.blt k n
 | .clo _ ks => ks.all fun k => Nat.blt k n
def outsM : (ps : List PM) -> Args ps -> Nat -> M (OutP ps × List Nat)
 | [], _, _ => .ret ((), [])
 | .val _ _ :: ps, x, n => outsM ps x.2 (n + 64)
 | .fn _ _ :: ps, x, n => outsM ps x.2 (n + 64)
 | .peek _ :: ps, x, n => outsM ps x.2 (n + 64)
 | .nil _ _ :: ps, x, n => outsM ps x (n + 64)
 | .cell k T :: ps, x, n => .get n fun
  | some (.box .op (.bptr o p U)) => bif Nat.beq o (10000000 + 64 * k) && p.isEmpty && decide (U = T) then (outsM ps x (n + 64)).bind fun r => .ret (r.1, n :: r.2) else .fail
  | _ => .fail
 | .mut T :: ps, x, n => (toOwn T (mkOwn T x.1 (n + 30000001)).c).bind fun y => (outsM ps x.2 (n + 64)).bind fun r => .ret ((y.1, r.1), y.2 ++ r.2)
 | .ref T m :: ps, x, n => .get n fun
  | some (.box U c) => bif decide (U = T) then (toMd m T c).bind fun y => (outsM ps x.2 (n + 64)).bind fun r => .ret ((y.1, r.1), n :: y.2 ++ r.2) else .fail
  | _ => .fail
def resM : (rs : List (Ty × Md)) -> List CT -> M (Res rs × List Nat × List Nat)
 | [], [] => .ret ((), [], [])
 | (T, .f) :: rs, c :: cs => (toDat T c).bind fun x => (resM rs cs).bind fun r => .ret ((x, r.1), r.2.1, c.ids ++ r.2.2)
 | (T, .np m) :: rs, .bptr o [] _ :: cs => .get o fun
  | some (.box U d) => bif decide (U = T) then (toMd m T d).bind fun x => (resM rs cs).bind fun r => .ret ((x.1, r.1), o :: x.2 ++ r.2.1, r.2.2) else .fail
  | _ => .fail
 | (T, m) :: rs, c :: cs => (toMd m T c).bind fun x => (resM rs cs).bind fun r => .ret ((x.1, r.1), x.2 ++ r.2.1, r.2.2)
 | _, _ => .fail
def resCTs (E : Env) (σ : St) : List ResultVar -> Option (List CT)
 | [] => some []
 | .tmp t :: r => match getL σ.slots t, resCTs E σ r with
  | .one c, some l => some (c :: l)
  | _, _ => none
 | .cell t ty :: r => match getL σ.slots t, E.ty ty, resCTs E σ r with
  | .one (.bptr o [] U), some T, some l => match find σ.objs o with
   | some (.box V c) => bif decide (U = T) && decide (V = T) && c.fits T then some (c :: l) else none
   | _ => none
  | _, _, _ => none
def endK (E : Env) (fn : Func) (ps : List PM) (rs : List (Ty × Md)) (xs : Args ps) (σ : St) : Option (OutP ps × Res rs) :=
 match resCTs E σ fn.results.toList with
 | none => none
 | some cs => ((outsM ps xs 10000000).bind fun o => (resM rs cs).bind fun r => .ret (o, r)).run σ.objs [] fun x _ =>
  bif nodupB (x.1.2 ++ x.2.2.1) && !(x.2.2.2.any fun o => (x.1.2 ++ x.2.2.1).any fun q => Nat.beq q o) then some (x.1.1, x.2.1) else none
def noCell : List PM -> Bool
 | [] => true
 | .cell _ _ :: _ => false
 | _ :: ps => noCell ps
def runFn (E : Env) (H : List LC) (fn : Func) (ps : List PM) (rs : List (Ty × Md)) (xs : Args ps) : Option (OutP ps × Res rs) :=
 match fn.body with
 | none => none
 | some c => bif argsFit ps xs 10000000 && noCell ps then exec E H c (init ps xs fn.ntmps) fun e σ =>
  match e with
  | .exit _ => none
  | _ => endK E fn ps rs xs σ
  else none
def runFnW (E : Env) (H : List LC) (fn : Func) (ps : List PM) (rs : List (Ty × Md)) (real : List Wi) (xs : Args ps) : Option (OutP ps × Res rs) :=
 match fn.body with
 | none => none
 | some c => bif argsFit ps xs 10000000 && cellsFit ps ps && real.all (Wi.lt ps.length) then exec E H c (initW ps real xs fn.ntmps) fun e σ =>
  match e with
  | .exit _ => none
  | _ => endK E fn ps rs xs σ
  else none
end Go.Aw
