/-
 Kinds against the program's table of types; what loads and stores do.
-/
import Derived.Test.YtdlkgkkfpfglbaaGreatAwD
import Derived.Laws.Entries
import Derived.Laws.Cells
import Derived.ChangeKeysEq
namespace Go.Aw
def aDI:Ty->Value->Bool
 |.int k,v=>match v with
  |.int k' n=>decide (k'=k)&&decide (n=0)
  |_=>false
 |.bool,v=>match v with
  |.bool b=>!b
  |_=>false
 |.str,v=>match v with
  |.string s=>s.data.toList.isEmpty
  |_=>false
 |.sl _ _,v=>match v with
  |.slice none n c=>Nat.beq n 0&&Nat.beq c 0
  |_=>false
 |_,_=>false
def aBJ:Ty->List Value->Option (List Value)
 |.unit,l=>some l
 |.pair a b,l=>match aBJ a l with
  |some r=>aBJ b r
  |none=>none
 |T,l=>match l with
  |v::r=>bif aDI T v then some r else none
  |[]=>none
theorem aM4{T:Ty}{v:Value}(h:aDI T v=true):[v]=T.zcells:=by
 cases T with
 |int k=>
  simp only[aDI] at h
  split at h
  . simp only[Zb,Za] at h
    obtain⟨rfl,rfl⟩:=h;rfl
  . cases h
 |bool=>
  simp only[aDI] at h
  split at h
  . rename_i b;cases b
    . rfl
    . cases h
  . cases h
 |str=>
  simp only[aDI] at h
  split at h
  . rename_i s
    have:s=⟨#[]⟩:=by
     cases s with|mk d=>congr;exact Array.toList_inj.1 (by simpa using h)
    rw[this];rfl
  . cases h
 |op=>cases h
 |sl t e=>
  simp only[aDI] at h
  split at h
  . simp only[Zb,Nat.beq_eq] at h
    obtain⟨rfl,rfl⟩:=h;rfl
  . cases h
 |unit=>cases h
 |pair a b=>cases h
theorem aCC:(T:Ty)->{l r:List Value}->aBJ T l=some r->l=T.zcells++r
 |.unit,l,r,h=>by
  simp only[aBJ,Zc] at h
  subst h;rfl
 |.pair a b,l,r,h=>by
  simp only[aBJ] at h
  cases hm:aBJ a l with
  |none=>rw[hm] at h;cases h
  |some r'=>
   rw[hm] at h
   rw[aCC a hm,aCC b h,Ty.zcells,Zk]
 |.int _,l,r,h=>one h
 |.bool,l,r,h=>one h
 |.str,l,r,h=>one h
 |.op,l,r,h=>one h
 |.sl _ _,l,r,h=>one h
where
 one {T:Ty} {l r:List Value} (h:(match l with
  |v::r=>bif aDI T v then some r else none
  |[]=>none)=some r):l=T.zcells++r:=by
  cases l with
  |nil=>cases h
  |cons v r'=>
   simp only[Zi] at h
   split at h
   . rename_i hz
     cases h
     rw[<-aM4 hz];rfl
   . cases h
def aAq(P:Program)(t:TypeId)(T:Ty):Bool:=
 match P.info? t with
 |some i=>Nat.beq i.size T.sz&&Nat.ble i.bytes 4096&&(!T.told||(match i.zero with
  |some z=>match aBJ T z.cells.toList with
   |some []=>match z with
    |.agg _=>T.isSt
    |_=>!T.isSt
   |_=>false
  |none=>false))&&(!decide (T=.op)||(match i.zero with
   |some z=>match z.cells.toList with
    |[v]=>v.oneCell'
    |_=>false
   |none=>false))
 |none=>false
inductive aPi where
 |t (t:TypeId)|fs (l:List Field) (off:Nat)
def pQ(P:Program):Ty->aPi->Bool
 |.int k,.t t=>aAq P t (.int k)&&(match P.underlying t with|some (.int k')=>decide (k'=k)|_=>false)
 |.bool,.t t=>aAq P t .bool&&(match P.underlying t with|some .bool=>true|_=>false)
 |.str,.t t=>aAq P t .str&&(match P.underlying t with|some .string=>true|_=>false)
 |.op,.t t=>aAq P t .op&&(match P.underlying t with|some (.pointer _)=>true|some (.func ..)=>true|_=>false)
 |.sl te e,.t t=>aAq P t (.sl te e)&&(match P.underlying t with|some (.slice u)=>Nat.beq u te|_=>false)&&pQ P e (.t te)
 |.pair a b,.t t=>aAq P t (.pair a b)&&!P.stoodInHeld t&&!P.eqGuardType P.depth t&&(match P.underlying t with
  |some (.struct fs)=>match fs.toList with
   |f::r=>Nat.beq f.offset 0&&f.name != "_" &&pQ P a (.t f.type)&&pQ P b (.fs r a.sz)
   |[]=>false
  |_=>false)
 |.pair a b,.fs (f::r) off=>Nat.beq f.offset off&&f.name != "_" &&pQ P a (.t f.type)&&pQ P b (.fs r (off+a.sz))
 |.unit,.fs [] _=>true
 |_,_=>false
theorem wH{P:Program}{T:Ty}{t:TypeId}(h:pQ P T (.t t)=true):aAq P t T=true:=by
 cases T<;>simp_all [pQ]
theorem tU{P:Program}{T:Ty}{t:TypeId}(h:aAq P t T=true):∃i,P.info? t=some i/\i.size=T.sz/\i.bytes<=4096:=by
 unfold aAq at h
 split at h
 . rename_i i hi
   simp only[Zb,Nat.beq_eq,Nat.ble_eq] at h
   exact⟨i,hi,h.1.1.1,h.1.1.2⟩
 . cases h
theorem xL{P:Program}{T:Ty}{t:TypeId}(h:pQ P T (.t t)=true)(w:World):(sizeOf t).run P w=.ok T.sz w:=by
 obtain⟨i,hi,hs,_⟩:=tU (wH h)
 simp[sizeOf,typeInfo,hi,hs]
theorem aEQ{P:Program}{T:Ty}{t:TypeId}(h:pQ P T (.t t)=true):P.cellsOf t=T.sz:=by
 obtain⟨i,hi,hs,_⟩:=tU (wH h)
 simp[Program.cellsOf,hi,hs]
theorem aOh{P:Program}{T:Ty}{t:TypeId}(h:pQ P T (.t t)=true)(w:World):∃i,(typeInfo t).run P w=.ok i w/\i.bytes<=4096:=by
 obtain⟨i,hi,_,hb⟩:=tU (wH h)
 exact⟨i,by simp[typeInfo,hi],hb⟩
inductive aIG(P:Program)(t:TypeId):Ty->Prop where
 |int (k) (h:P.underlying t=some (.int k)):aIG P t (.int k)
 |bool (h:P.underlying t=some .bool):aIG P t .bool
 |str (h:P.underlying t=some .string):aIG P t .str
 |op (h:(∃u,P.underlying t=some (.pointer u))\/(∃a b c,P.underlying t=some (.func a b c))):aIG P t .op
 |sl (u e) (h:P.underlying t=some (.slice u)) (he:pQ P e (.t u)=true):aIG P t (.sl u e)
 |st (a b) (fs) (h:P.underlying t=some (.struct fs)) (hf:pQ P (.pair a b) (.fs fs.toList 0)=true) (hs:P.stoodInHeld t=false) (hg:P.eqGuardType P.depth t=false):aIG P t (.pair a b)
theorem fR{P:Program}{T:Ty}{t:TypeId}(h:pQ P T (.t t)=true):aIG P t T:=by
 cases T with
 |int k=>
  simp only[pQ,Zb] at h
  split at h
  . rename_i k' hk
    have:k'=k:=Ze h.2
    subst this
    exact .int _ hk
  . exact absurd h.2 (by simp)
 |bool=>
  simp only[pQ,Zb] at h
  split at h
  . rename_i hk;exact .bool hk
  . exact absurd h.2 (by simp)
 |str=>
  simp only[pQ,Zb] at h
  split at h
  . rename_i hk;exact .str hk
  . exact absurd h.2 (by simp)
 |op=>
  simp only[pQ,Zb] at h
  split at h
  . rename_i u hk;exact .op (.inl ⟨u,hk⟩)
  . rename_i a b c hk;exact .op (.inr ⟨a,b,c,hk⟩)
  . exact absurd h.2 (by simp)
 |sl u e=>
  simp only[pQ,Zb] at h
  split at h
  . rename_i v hk
    have:v=u:=by simpa using h.1.2
    subst this
    exact .sl _ _ hk h.2
  . exact absurd h.1.2 (by simp)
 |unit=>simp[pQ] at h
 |pair a b=>
  simp only[pQ,Zb,Bool.not_eq_true'] at h
  split at h
  . rename_i fs hk
    split at h
    . rename_i f r hf
      refine .st _ _ fs hk ?_ h.1.1.2 h.1.2
      rw[hf]
      simpa [pQ] using h.2
    . exact absurd h.2 (by simp)
  . exact absurd h.2 (by simp)
theorem aMb{P:Program}{T:Ty}{t:TypeId}(h:pQ P T (.t t)=true)(w:World):(isAgg t).run P w=.ok T.isSt w:=by
 have d:=fR h
 clear h
 cases d
 case int h=>simp[isAgg,run_underlying h,Ty.isSt]
 case bool h=>simp[isAgg,run_underlying h,Ty.isSt]
 case str h=>simp[isAgg,run_underlying h,Ty.isSt]
 case op h=>rcases h with⟨u,h⟩|⟨a,b,c,h⟩<;>simp[isAgg,run_underlying h,Ty.isSt]
 case sl h _=>simp[isAgg,run_underlying h,Ty.isSt]
 case st h _ _ _=>simp[isAgg,run_underlying h,Ty.isSt]
def cS(st:Bool)(cs:List Value):Value:=if st then .agg cs.toArray else cs.getD 0 undef
theorem aKM{P:Program}{t:TypeId}(h:pQ P .op (.t t)=true)(w:World):
 ∃z v,(zeroValue t).run P w=.ok z w/\z.cells=#[v]/\v.oneCell'=true:=by
 have hi:=wH h
 unfold aAq at hi
 split at hi
 . rename_i i hi'
   simp only[Zb,decide_true,Bool.not_true,Bool.false_or] at hi
   obtain⟨_,hz⟩:=hi
   split at hz
   . rename_i z hzz
     split at hz
     . rename_i v hv
       refine⟨z,v,by simp[zeroValue,typeInfo,hi',hzz],?_,hz⟩
       rw[<-hv]
     . cases hz
   . cases hz
 . cases hi
theorem aJB{P:Program}{T:Ty}{t:TypeId}(h:pQ P T (.t t)=true)(ht:T.told=true)(w:World):
 (zeroValue t).run P w=.ok (cS T.isSt T.zcells) w:=by
 have hi:=wH h
 unfold aAq at hi
 split at hi
 . rename_i i hi'
   simp only[Zb,ht,Bool.not_true,Bool.false_or] at hi
   obtain⟨⟨_,hz⟩,_⟩:=hi
   split at hz
   . rename_i z hzz
     split at hz
     . rename_i hm
       have hc:=aCC T hm
       rw[List.append_nil] at hc
       have:z=cS T.isSt T.zcells:=by
        split at hz
        . rename_i cs
          rw[hz];simp only[cS,if_true]
          simp only[Value.cells] at hc
          rw[<-hc]
        . rename_i hna
          have hst:T.isSt=false:=by simpa using hz
          rw[hst];simp only[cS,Zj,if_false]
          have:z.cells=#[z]:=by cases z<;>first|rfl|exact(hna _ rfl).elim
          rw[this] at hc
          rw[<-hc];rfl
       simp[zeroValue,typeInfo,hi',hzz,this]
     . cases hz
   . cases hz
 . cases hi
def Ty.offn:Ty->Nat->Nat
 |.pair _ _,0=>0
 |.pair a b,n+1=>a.sz+b.offn n
 |_,_=>0
theorem aCJ:(T:Ty)->{k:Nat}->{U:Ty}->T.nth k=some U->T.offn k+U.sz<=T.sz
 |.pair a b,0,U,h=>by simp only[Ty.nth,Zc] at h;subst h;simp[Ty.offn,Ty.sz]
 |.pair a b,k+1,U,h=>by
  simp only[Ty.nth] at h
  have:=aCJ b h
  simp only[Ty.offn,Ty.sz];omega
 |.int _,_,_,h=>by cases h
 |.bool,_,_,h=>by cases h
 |.str,_,_,h=>by cases h
 |.op,_,_,h=>by cases h
 |.sl _ _,_,_,h=>by cases h
 |.unit,_,_,h=>by cases h
theorem aDe{P:Program}:(T:Ty)->{l:List Field}->{off k:Nat}->{U:Ty}->pQ P T (.fs l off)=true->T.nth k=some U->
 ∃f,l[k]?=some f/\f.offset=off+T.offn k/\pQ P U (.t f.type)=true
 |.pair a b,l,off,k,U,h,hn=>by
  cases l with
  |nil=>simp[pQ] at h
  |cons f r=>
   simp only[pQ,Zb,Nat.beq_eq] at h
   cases k with
   |zero=>
    simp only[Ty.nth,Zc] at hn;subst hn
    exact⟨f,rfl,by simp[Ty.offn,h.1.1.1],h.1.2⟩
   |succ k=>
    simp only[Ty.nth] at hn
    obtain⟨g,h1,h2,h3⟩:=aDe b h.2 hn
    exact⟨g,by simpa using h1,by simp only[Ty.offn];omega,h3⟩
 |.int _,_,_,_,_,_,h=>by cases h
 |.bool,_,_,_,_,_,h=>by cases h
 |.str,_,_,_,_,_,h=>by cases h
 |.op,_,_,_,_,_,h=>by cases h
 |.sl _ _,_,_,_,_,_,h=>by cases h
 |.unit,_,_,_,_,_,h=>by cases h
theorem aIc{P:Program}{T:Ty}{t:TypeId}{k:Nat}{U:Ty}(h:pQ P T (.t t)=true)(hn:T.nth k=some U):
 ∃fs f,P.underlying t=some (.struct fs)/\fs[k]?=some f/\f.offset=T.offn k/\pQ P U (.t f.type)=true:=by
 have d:=fR h
 clear h
 cases d
 case st fs hu hf hs hg=>
  obtain⟨f,h1,h2,h3⟩:=aDe _ hf hn
  exact⟨fs,f,hu,by simpa using h1,by simpa using h2,h3⟩
 all_goals cases hn
theorem aC2{w:World}{b off:Nat}{l:List Value}(h:blk w b=some l):w.cell? ⟨b,off,none⟩=l[off]?:=by
 unfold blk at h
 unfold World.cell?
 cases hb:w.heap[b]? with
 |none=>rw[hb] at h;cases h
 |some o=>
  rw[hb] at h
  cases o with
  |cells c E fr=>
   simp only[Zc] at h;subst h
   show(if(none:Option Nat).isSome=true then none else c[off]?)=c.toList[off]?
   rw[if_neg (by simp),Array.getElem?_toList]
  |_=>cases h
theorem uE{l:List Value}{off n j:Nat}(h:j<n):(fX l off n)[j]?=l[off+j]?:=by
 unfold fX
 rw[List.getElem?_take_of_lt h,List.getElem?_drop]
theorem aAH{P:Program}{w:World}{b off n:Nat}{l:List Value}(hb:blk w b=some l)(hl:off+n<=l.length):
 (loadCells ⟨b,off,none⟩ n).run P w=.ok (fX l off n).toArray w:=by
 have hlen:=oB hl
 have key:=run_loadCells_list (P:=P) w ⟨b,off,none⟩ (fX l off n)
 rw[hlen] at key
 refine key fun j v hv=>?_
 have hj:j<n:=by rw[<-hlen];exact jD hv
 rw[uE hj] at hv
 by_cases h0:j=0
 . subst h0;simp only[Addr.add,if_true];rw[aC2 hb];simpa using hv
 . simp only[Addr.add,if_neg h0];rw[aC2 hb];exact hv
theorem aCv{T:Ty}(h:T.isSt=false):T.sz=1:=by cases T<;>first|rfl|cases h
theorem aD3{P:Program}{w:World}{T:Ty}{t:TypeId}{b off:Nat}{l:List Value}(h:pQ P T (.t t)=true)(hb:blk w b=some l)(hl:off+T.sz<=l.length):
 (loadVar t ⟨b,off,none⟩).run P w=.ok (cS T.isSt (fX l off T.sz)) w:=by
 simp only[loadVar,Sem.run_bind,aMb h,Result.andThen_ok]
 cases hst:T.isSt with
 |true=>
  simp only[if_true,Sem.run_bind,xL h,Result.andThen_ok,aAH hb hl,Sem.run_pure,cS]
 |false=>
  have hs:=aCv hst
  have hlt:off<l.length:=by omega
  simp only[Zj,if_false,run_load,aC2 hb,Zm hlt,cS,hs]
  congr 1
  unfold fX
  rw[List.getD_eq_getElem?_getD,List.getElem?_take_of_lt (by omega),List.getElem?_drop,Nat.add_zero,Zm hlt]
  rfl
theorem tC{fr:Nat×Nat}{off n off' n':Nat}(h:xV fr off n)(h1:off<=off')(h2:off'+n'<=off+n):xV fr off' n':=
 fun j hj hj'=>h j (Nat.le_trans h1 hj) (Nat.lt_of_lt_of_le hj' h2)
def eS(l:List Value)(off:Nat)(vs:List Value):List Value:=l.take off++vs++l.drop (off+vs.length)
theorem wN{l:List Value}{off:Nat}{vs:List Value}(h:off+vs.length<=l.length):(eS l off vs).length=l.length:=by
 unfold eS;rw[Zf,Zf,Zr,Zs];omega
theorem aEr{l:List Value}{k:Nat}{v:Value}{vs:List Value}(h:k<l.length):eS (l.set k v) (k+1) vs=eS l k (v::vs):=by
 unfold eS
 have h1:(l.set k v).take (k+1)=l.take k++[v]:=by
  rw[List.take_succ_eq_append_getElem (by simpa using h),List.getElem_set_self,List.take_set_of_le (Nat.le_refl _)]
 have h2:(l.set k v).drop (k+1+vs.length)=l.drop (k+(v::vs).length):=by
  rw[List.drop_set_of_lt (by omega)]
  congr 1
  simp only[Zg];omega
 rw[h1,h2]
 simp only[Zk,List.nil_append,List.cons_append]
theorem vL{P:Program}{b off:Nat}{E:TypeId}{fr:Nat×Nat}:(vs:List Value)->(i:Nat)->(c:Array Value)->(w:World)->w.heap[b]?=some (.cells c E fr)->
 off+i+vs.length<=c.size->xV fr (off+i) vs.length->(∀v∈vs,v.oneCell'=true)->
 ∃w',(storeCells ⟨b,off,none⟩ vs i).run P w=.ok () w'/\w'.heap[b]?=some (.cells (eS c.toList (off+i) vs).toArray E fr)/\
  (∀b',b'≠b->w'.heap[b']?=w.heap[b']?)/\aDt w w'
 |[],i,c,w,hb,hs,_,_=>⟨w,rfl,by rw[hb];congr;unfold eS;simp,fun _ _=>rfl,⟨rfl,rfl,rfl,rfl⟩⟩
 |v::vs,i,c,w,hb,hs,hf,ho=>by
  simp only[Zg] at hs hf
  have ha:(⟨b,off,none⟩:Addr).add i=⟨b,off+i,none⟩:=by
   unfold Addr.add;split
   . rename_i h0;subst h0;rfl
   . rfl
  have hlt:off+i<c.size:=by omega
  have hcell:w.cell? ⟨b,off+i,none⟩=some c[off+i]:=by
   rw[aC2 (pV hb),Zm (by simpa using hlt)];simp
  have hfz:w.frozen? ⟨b,off+i,none⟩=false:=by
   obtain⟨lo,hi⟩:=fr
   unfold World.frozen?
   rw[hb]
   have:=hf (off+i) (Nat.le_refl _) (by omega)
   simpa [Nat.not_lt] using this
  have hbb:b<w.heap.size:=by
   rcases Nat.lt_or_ge b w.heap.size with h|h
   . exact h
   . rw[Array.getElem?_eq_none h] at hb;cases hb
  have hset:(w.setCell ⟨b,off+i,none⟩ v).heap[b]?=some (.cells (c.setIfInBounds (off+i) v) E fr):=by
   unfold World.setCell
   rw[Array.getElem?_modify,if_pos rfl,hb];rfl
  have hoth:∀b',b'≠b->(w.setCell ⟨b,off+i,none⟩ v).heap[b']?=w.heap[b']?:=by
   intro b' hb'
   unfold World.setCell
   rw[Array.getElem?_modify,if_neg (Ne.symm hb')]
  have hsz:aDt w (w.setCell ⟨b,off+i,none⟩ v):=⟨by unfold World.setCell;simp,rfl,rfl,rfl⟩
  obtain⟨w',h1,h2,h3,h4⟩:=vL (P:=P) (off:=off) vs (i+1) (c.setIfInBounds (off+i) v) (w.setCell ⟨b,off+i,none⟩ v) hset (by simp;omega)
   (tC hf (by omega) (by omega)) (fun u hu=>ho u (Zo _ hu))
  refine⟨w',?_,?_,fun b' hb'=>(h3 b' hb').trans (hoth b' hb'),hsz.trans h4⟩
  . simp only[storeCells,Sem.run_bind,ha,run_store P w _ v .plain (ho v (by simp)),hcell,hfz,Zj,if_false,Result.andThen_ok]
    exact h1
  . rw[h2]
    congr 3
    rw[Array.toList_setIfInBounds,show off+(i+1)=off+i+1 by omega,aEr (by simpa using hlt)]
theorem aGS{P:Program}{w:World}{T:Ty}{t:TypeId}{b off:Nat}{c:Array Value}{E:TypeId}{fr:Nat×Nat}{v:Value}(h:pQ P T (.t t)=true)
 (hb:w.heap[b]?=some (.cells c E fr)) (hl:off+T.sz<=c.size) (hf:xV fr off T.sz) (hv:v.cells.size=T.sz) (ho:∀u∈v.cells.toList,u.oneCell'=true):
 ∃w',(storeVar t ⟨b,off,none⟩ v).run P w=.ok () w'/\w'.heap[b]?=some (.cells (eS c.toList off v.cells.toList).toArray E fr)/\
  (∀b',b'≠b->w'.heap[b']?=w.heap[b']?)/\aDt w w':=by
 have hv':v.cells.toList.length=T.sz:=by simpa using hv
 obtain⟨w',h1,h2,h3,h4⟩:=vL (P:=P) (off:=off) v.cells.toList 0 c w hb (by omega) (by rw[hv'];exact hf) ho
 refine⟨w',?_,by simpa using h2,h3,h4⟩
 simp only[storeVar,Sem.run_bind,xL h,Result.andThen_ok,hv,ne_eq,not_true,if_false]
 exact h1
end Go.Aw
