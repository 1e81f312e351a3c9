/-
 slices.Insert and slices.Delete at []int keep their promises: by the library's own contracts.
-/
import Derived.Test.YthkbmmjpjcehpaaGreatAxM
import Derived.Shelf.Spec.SlicesInsert
import Derived.Shelf.Spec.SlicesInsertGrow
import Derived.Shelf.Slices.Delete
import Derived.Shelf.Slices.Empties
namespace Go.Aw
open Go.Proofs Go.Shelf
theorem seg_one{l:List Value}{a:Nat}{v:Value}:fC l a 1=[v]↔l[a]?=some v:=by
 unfold fC
 constructor
 . intro h
   have h1:((l.drop a).take 1)[0]?=some v:=by rw[h];rfl
   rw[List.getElem?_take_of_lt (by omega),List.getElem?_drop] at h1
   exact h1
 . intro h
   have h1:(l.drop a)[0]?=some v:=by rw[List.getElem?_drop];exact h
   cases hd:l.drop a with
   |nil=>rw[hd] at h1;cases h1
   |cons x r=>rw[hd] at h1;simp only[List.getElem?_cons_zero,Zc] at h1;simp[h1]
def zE(c:Array Value)(off:Nat)(xs:List Int):Prop:=∀i x,xs[i]?=some x->c[off+i]?=some (.int .i64 x)/\inK .i64 x
theorem aBS{w:World}{t:TypeId}{xs:List Int}{v:Value}{F:Nat->Prop}(h:nJ w (.sl t (.int .i64)) xs [v] F):
 (v=.slice none 0 0/\xs=[]/\∀q,¬F q)\/
  ∃b off cap c E,v=.slice (some ⟨b,off,none⟩) xs.length cap/\w.heap[b]?=some (.cells c E (0,0))/\xs.length<=cap/\cap<=maxLen/\off+cap<=c.size/\(∀q,F q↔q=b)/\zE c off xs:=by
 rcases h with⟨h1,h2,h3⟩|⟨b,off,cap,c,E,fr,Fs,h1,h2,h3,h4,h5,h6,h7,h8,h9,h10⟩
 . exact .inl ⟨by simpa using h1,h2,h3⟩
 . have hfr:fr=(0,0):=h4.2.resolve_left (by intro h;cases h)
   subst hfr
   have hin:∀i x,xs[i]?=some x->c[off+i]?=some (.int .i64 x)/\inK .i64 x/\∀q,¬Fs i q:=by
    intro i x hx
    obtain⟨g1,g2,g3⟩:=h10 i x hx
    have g4:fC c.toList (off+i*1) 1=[.int .i64 x]:=g1
    rw[Nat.mul_one,seg_one,Array.getElem?_toList] at g4
    exact⟨g4,g2,g3⟩
   refine .inr ⟨b,off,cap,c,E,by simpa using h1,h2,h3,h4.1,by simpa [Ty.sz] using h5,fun q=>?_,fun i x hx=>⟨(hin i x hx).1,(hin i x hx).2.1⟩⟩
   rw[h7]
   constructor
   . rintro(h|⟨i,hi,h⟩)
     . exact h
     . exact absurd h ((hin i _ (Zm hi)).2.2 q)
   . exact .inl
theorem aCK{w:World}{t:TypeId}{xs:List Int}{b off cap:Nat}{c:Array Value}{E:TypeId}(hb:w.heap[b]?=some (.cells c E (0,0)))(hc:xs.length<=cap)(hm:cap<=maxLen)(hl:off+cap<=c.size)
 (h:zE c off xs):nJ w (.sl t (.int .i64)) xs [.slice (some ⟨b,off,none⟩) xs.length cap] (fun q=>q=b):=by
 refine .inr ⟨b,off,cap,c,E,(0,0),fun _ _=>False,rfl,hb,hc,⟨hm,.inr rfl⟩,by simpa [Ty.sz] using hl,fun j _ _ hj=>by omega,fun q=>?_,fun _ _ h=>h,fun _ _ _ _ _ _ h=>h.elim,fun i x hx=>?_⟩
 . exact⟨.inl,fun h=>h.elim id fun⟨_,_,h⟩=>h.elim⟩
 . obtain⟨h1,h2⟩:=h i x hx
   refine⟨?_,h2,fun _ h=>h⟩
   show fC c.toList (off+i*1) 1=_
   rw[Nat.mul_one,seg_one,Array.getElem?_toList]
   exact h1
theorem aDD{w:World}{b o:Nat}{v:Value}{c:Array Value}{E:TypeId}{fr:Nat×Nat}(h:w.heap[b]?=some (.cells c E fr)):
 (w.setCell ⟨b,o,none⟩ v).heap[b]?=some (.cells (c.setIfInBounds o v) E fr)/\(∀q,q≠b->(w.setCell ⟨b,o,none⟩ v).heap[q]?=w.heap[q]?)/\vG w (w.setCell ⟨b,o,none⟩ v):=by
 refine⟨?_,fun q hq=>?_,⟨by simp[World.setCell],rfl,rfl,rfl⟩⟩
 . simp only[World.setCell]
   rw[Array.getElem?_modify,if_pos rfl,h];rfl
 . simp only[World.setCell]
   rw[Array.getElem?_modify,if_neg (fun h=>hq h.symm)]
theorem nF(b:Nat)(E:TypeId)(fr:Nat×Nat):(vs:List Value)->(o:Nat)->(w:World)->(c:Array Value)->w.heap[b]?=some (.cells c E fr)->
 ∃c',(w.setCells b o vs).heap[b]?=some (.cells c' E fr)/\c'.size=c.size/\(∀j,j<o\/o+vs.length<=j->c'[j]?=c[j]?)/\(∀j v,vs[j]?=some v->o+j<c.size->c'[o+j]?=some v)/\
  (∀q,q≠b->(w.setCells b o vs).heap[q]?=w.heap[q]?)/\vG w (w.setCells b o vs)
 |[],o,w,c,h=>⟨c,h,rfl,fun _ _=>rfl,fun j v hv=>by simp at hv,fun _ _=>rfl,⟨rfl,rfl,rfl,rfl⟩⟩
 |v::r,o,w,c,h=>by
  obtain⟨h1,h2,h3⟩:=aDD (o:=o) (v:=v) h
  obtain⟨c',k1,k2,k3,k4,k5,k6⟩:=nF b E fr r (o+1) _ _ h1
  refine⟨c',k1,by rw[k2,Array.size_setIfInBounds],fun j hj=>?_,fun j u hu hlt=>?_,fun q hq=>(k5 q hq).trans (h2 q hq),h3.trans k6⟩
  . simp only[Zg] at hj
    rw[k3 j (by omega),Array.getElem?_setIfInBounds,if_neg (by omega)]
  . cases j with
    |zero=>
     simp only[List.getElem?_cons_zero,Zc] at hu
     subst hu
     rw[Nat.add_zero,k3 o (by omega),Array.getElem?_setIfInBounds,if_pos rfl,if_pos (by simpa using hlt)]
    |succ j=>
     simp only[List.getElem?_cons_succ] at hu
     have:=k4 j u hu (by rw[Array.size_setIfInBounds];omega)
     rwa [show o+1+j=o+(j+1) by omega] at this
theorem aEx{w:World}{b off:Nat}{d:Array Int}{c:Array Value}{E:TypeId}{fr:Nat×Nat}(h:w.heap[b]?=some (.cells c E fr)):
 ∃c',(Sort.putRow (Value.int .i64) w b off d).heap[b]?=some (.cells c' E fr)/\c'.size=c.size/\(∀j x,d.toList[j]?=some x->off+j<c.size->c'[off+j]?=some (.int .i64 x))/\
  (∀q,q≠b->(Sort.putRow (Value.int .i64) w b off d).heap[q]?=w.heap[q]?)/\vG w (Sort.putRow (Value.int .i64) w b off d):=by
 refine⟨Sort.putCells (Value.int .i64) off d c,?_,by simp[Sort.putCells],fun j x hx hlt=>?_,fun q hq=>?_,⟨by simp[Sort.putRow,Sort.mapBlock],rfl,rfl,rfl⟩⟩
 . simp only[Sort.putRow,Sort.mapBlock]
   rw[Array.getElem?_modify,if_pos rfl,h];rfl
 . rw[Array.getElem?_toList] at hx
   have hj:j<d.size:=by
    rcases Nat.lt_or_ge j d.size with h|h
    . exact h
    . rw[Array.getElem?_eq_none h] at hx;cases hx
   simp only[Sort.putCells,Array.getElem?_mapIdx]
   rw[Array.getElem?_eq_getElem hlt]
   simp only[Option.map_some,Zc]
   rw[if_pos ⟨by omega,by omega⟩,show off+j-off=j by omega,getElem!_pos d j hj]
   rw[Array.getElem?_eq_getElem hj] at hx
   cases hx;rfl
 . simp only[Sort.putRow,Sort.mapBlock]
   rw[Array.getElem?_modify,if_neg (fun h=>hq h.symm)]
theorem aAi{w w':World}{Av:Nat->Prop}{s:FS}{xs:lE s.ps}{vs:List Value}{Fs:List (Nat->Prop)}{v:Value}{H:Nat->Prop}(hAv:∀b,Av b->b<w.heap.size/\¬gX Fs b)
 (ho:qT w w' Av s.ps (s.fn xs).1 vs Fs []) (hr:uT w' Av s.rs (s.fn xs).2 [v] [H]) (hH:∀q,H q->q<w'.heap.size/\(gX Fs q\/w.heap.size<=q))
 (hw:∀b,b<w.heap.size->¬gX Fs b->w'.heap[b]?=w.heap[b]?) (hg:pZ w w'):aFI w Av s xs vs Fs (.returned v) w':=by
 have hone:∀q,gX ([]++[H]) q->H q:=by
  rintro q ⟨F,hF,hq⟩
  simp only[List.nil_append,Zq] at hF
  subst hF;exact hq
 refine⟨[v],[],[H],Av,rfl,ho,hr,by simp[lK],fun q hq=>hH q (hone q hq),fun b hb=>?_,hw,hg⟩
 obtain⟨h1,h2⟩:=hAv b hb
 refine⟨Nat.lt_of_lt_of_le h1 hg.size,fun hq=>?_,.inl hb⟩
 rcases(hH b (hone b hq)).2 with h|h
 . exact h2 h
 . omega
abbrev sJ(t:TypeId):Ty:=.sl t (.int .i64)
def aEo(t:TypeId):FS where
 ps:=[.val (sJ t) .o,.val (.int .i64) .f,.val (sJ t) .o]
 rs:=[(sJ t,.o)]
 pre:=fun xs=>decide (0<=(xs.2.1:Int))&&(decide ((xs.2.1:Int)<=((xs.1:List Int).length:Int))&&(decide (0<(xs.2.2.1:List Int).length)&&decide (((xs.1:List Int).length+(xs.2.2.1:List Int).length)*8<=140737488355328)))
 fn:=fun xs=>((),((xs.1:List Int).take (xs.2.1:Int).toNat++(xs.2.2.1:List Int)++(xs.1:List Int).drop (xs.2.1:Int).toNat,()))
theorem aJr{l m:List Int}{i j:Nat}{x:Int}(hi:i<=l.length)(h:(l.take i++m++l.drop i)[j]?=some x):
 (j<i/\l[j]?=some x)\/(i<=j/\j<i+m.length/\m[j-i]?=some x)\/(i+m.length<=j/\(l.drop i)[j-(i+m.length)]?=some x):=by
 have hl:(l.take i).length=i:=by rw[Zr];omega
 rcases Nat.lt_or_ge j i with h1|h1
 . rw[Zk,List.getElem?_append_left (by omega),List.getElem?_take_of_lt h1] at h
   exact .inl ⟨h1,h⟩
 . rcases Nat.lt_or_ge j (i+m.length) with h2|h2
   . rw[Zk,List.getElem?_append_right (by omega),List.getElem?_append_left (by omega),hl] at h
     exact .inr (.inl ⟨h1,h2,h⟩)
   . rw[List.getElem?_append_right (by rw[Zf];omega),Zf,hl] at h
     exact .inr (.inr ⟨h2,h⟩)
abbrev vals(l:List Int):List Value:=l.map (Value.int .i64)
theorem aHI{l:List Int}{j:Nat}{v:Value}(h:(vals l)[j]?=some v):∃x,l[j]?=some x/\v=.int .i64 x:=by
 simp only[vals,List.getElem?_map,Option.map_eq_some_iff] at h
 obtain⟨x,h1,h2⟩:=h
 exact⟨x,h1,h2.symm⟩
theorem pW{l:List Int}{j:Nat}{x:Int}(h:l[j]?=some x):(vals l)[j]?=some (.int .i64 x):=by
 simp only[vals,List.getElem?_map,h,Option.map_some]
theorem rV{l:List Int}:∀v∈vals l,v.oneCell'=true:=by
 intro v hv
 simp only[vals,List.mem_map] at hv
 obtain⟨x,_,rfl⟩:=hv
 rfl
theorem aE7{w:World}{b k:Nat}{c:Array Value}{E:TypeId}{fr:Nat×Nat}(h:w.heap[b]?=some (.cells c E fr)):w.cell? ⟨b,k,none⟩=c[k]?:=by
 simp[World.cell?,h]
theorem tS{w:World}{b k:Nat}{c:Array Value}{E:TypeId}(h:w.heap[b]?=some (.cells c E (0,0))):w.frozen? ⟨b,k,none⟩=false:=by
 simp[World.frozen?,h]
theorem aF5{w:World}{b:Nat}{c:Array Value}{E:TypeId}{fr:Nat×Nat}(h:w.heap[b]?=some (.cells c E fr)):w.shape? b=some (E,c.size):=by
 simp[World.shape?,h]
theorem aBw{w:World}{b:Nat}{o:Go.Obj}(h:w.heap[b]?=some o):b<w.heap.size:=by
 rcases Nat.lt_or_ge b w.heap.size with h1|h1
 . exact h1
 . rw[Array.getElem?_eq_none h1] at h;cases h
theorem aCv{w:World}{b off:Nat}{c:Array Value}{E:TypeId}{fr:Nat×Nat}{xs:List Int}(h:w.heap[b]?=some (.cells c E fr))(hh:zE c off xs):∀j v,(vals xs)[j]?=some v->w.cell? ⟨b,off+j,none⟩=some v:=by
 intro j v hv
 obtain⟨x,h1,rfl⟩:=aHI hv
 rw[aE7 h]
 exact(hh j x h1).1
theorem uF{c c2:Array Value}{off off2 i:Nat}{l m:List Int}(hi:i<=l.length)(hl:zE c off l)(hm:∀(j:Nat) (x:Int),m[j]?=some x->inK .i64 x)(h1:∀(j:Nat) (x:Int),j<i->l[j]?=some x->c2[off2+j]?=some (.int .i64 x))
 (h2:∀(j:Nat) (x:Int),m[j]?=some x->c2[off2+(i+j)]?=some (.int .i64 x)) (h3:∀(j:Nat) (x:Int),(l.drop i)[j]?=some x->c2[off2+(i+m.length+j)]?=some (.int .i64 x)):zE c2 off2 (l.take i++m++l.drop i):=by
 intro j x hx
 rcases aJr hi hx with⟨g1,g2⟩|⟨g1,g2,g3⟩|⟨g1,g2⟩
 . exact⟨h1 j x g1 g2,(hl j x g2).2⟩
 . have:=h2 _ x g3
   rw[show i+(j-i)=j by omega] at this
   exact⟨this,hm _ x g3⟩
 . have:=h3 _ x g2
   rw[show i+m.length+(j-(i+m.length))=j by omega] at this
   rw[List.getElem?_drop] at g2
   exact⟨this,(hl _ x g2).2⟩
theorem aBj{A:List Value}{Z:Array Value}{j:Nat}{v:Value}(h:A[j]?=some v):(A.toArray++Z)[j]?=some v:=by
 have hj:=eW h
 rw[Array.getElem?_append_left (by simpa using hj)]
 simpa using h
theorem aH8{P:Program}{ρ:Ren}(L:Lays2.n21 P ρ)(t:TypeId):bF P (ρ.f 21) (aEo t):=by
 intro w Av vs xs Fs hA hAp hAv hF hp
 obtain⟨v1,r1,F1,G1,rfl,rfl,⟨cs1,rfl,h1⟩,v2,r2,F2,G2,rfl,rfl,⟨cs2,rfl,⟨h2,_⟩,h2'⟩,v3,r3,F3,G3,rfl,rfl,⟨cs3,rfl,h3⟩,rfl,rfl⟩:=hA
 obtain⟨l,k,m,u⟩:=xs
 change List Int at l;change Int at k;change List Int at m
 have hcs2:cs2=[.int .i64 k]:=h2
 subst hcs2
 obtain⟨a1,rfl⟩:=sI (kA (sJ t) h1)
 obtain⟨a3,rfl⟩:=sI (kA (sJ t) h3)
 simp only[aEo,Zb,Za] at hp
 have p1:(0:Int)<=k:=hp.1
 have p2:k<=(l.length:Int):=hp.2.1
 have p3:0<m.length:=hp.2.2.1
 have p4:(l.length+m.length)*8<=140737488355328:=hp.2.2.2
 clear hp
 have h3:nJ w (sJ t) m [a3] F3:=h3
 have h1:nJ w (sJ t) l [a1] F1:=h1
 have hk:k=((k.toNat:Nat):Int):=by omega
 have p2':k.toNat<=l.length:=by omega
 obtain⟨i,hi⟩:∃i,i=k.toNat:=⟨_,rfl⟩
 rw[<-hi] at hk p2'
 subst hk
 have hne3:¬m=[]:=fun h=>by rw[h] at p3;simp at p3
 rcases aBS h3 with⟨_,h,_⟩|⟨vb,voff,vc,cv,Ev,rfl,k1,k2,k3,k4,k5,k6⟩
 . exact absurd h hne3
 have hvs:=aCv k1 k6
 have hmlen:(vals m).length=m.length:=List.length_map ..
 have hllen:(vals l).length=l.length:=List.length_map ..
 have hmin:∀j x,m[j]?=some x->inK .i64 x:=fun j x h=>(k6 j x h).2
 have hFv:F3 vb:=(k5 vb).2 rfl
 have hlenr:(l.take i++m++l.drop i).length=l.length+m.length:=by simp only[Zf,Zr,Zs];omega
 have hfn:(aEo t).fn (l,((i:Nat):Int),m,u)=((),(l.take i++m++l.drop i,())):=rfl
 have hnew:∀(w':World) (c:Array Value) (nc:Nat),w'.heap.size=w.heap.size+1->w'.heap[w.heap.size]?=some (.cells c (ρ.t 3) (0,0))->(∀q,q<w.heap.size->w'.heap[q]?=w.heap[q]?)->pZ w w'->
  l.length+m.length<=nc->nc<=maxLen->nc<=c.size->zE c 0 (l.take i++m++l.drop i)->
  aFI w Av (aEo t) (l,((i:Nat):Int),m,u) [cA (sJ t).isSt [a1],cA (Ty.int .i64).isSt [.int .i64 (i:Int)],cA (sJ t).isSt [.slice (some ⟨vb,voff,none⟩) m.length vc]] [F1,F2,F3]
   (.returned (.slice (some ⟨w.heap.size,0,none⟩) (l.length+m.length) nc)) w':=by
  intro w' c nc g1 g2 g3 g4 g5 g6 g7 g8
  refine aAi (H:=fun q=>q=w.heap.size) hAv rfl ?_ (fun q hq=>⟨by omega,.inr (by omega)⟩) (fun b hb _=>g3 b hb) g4
  refine⟨_,[],_,[],rfl,rfl,⟨[_],rfl,?_⟩,rfl,rfl⟩
  have:=aCK (t:=t) (off:=0) (cap:=nc) g2 (by rw[hlenr];exact g5) g6 (by omega) g8
  rw[hlenr] at this
  exact this
 rcases aBS h1 with⟨rfl,rfl,_⟩|⟨b,off,cap,c,E,rfl,q1,q2,q3,q4,q5,q6⟩
 ·
  have hi0:i=0:=by simpa using p2'
  subst hi0
  simp only[Zh,Nat.zero_add] at p4
  refine(Any2.slices_Insert_int_end_grow L none 0 0 vb voff m.length vc [] (vals m) w p3 (Nat.le_refl _) (by omega) (by omega) rfl hmlen (fun _=>rfl) (fun a h=>by cases h) hvs rV).mono ?_
  rintro e w' ⟨rfl,rfl⟩
  refine hnew _ _ _ (mA _ _) (nY w.drew _) (fun q hq=>lR w.drew _ hq) (uB _ _) ?_ ?_ ?_ ?_
  . simp only[Zh,Nat.zero_add,grownCap,Question.cut];omega
  . exact xS _ _ _ _ (by unfold maxLen;omega)
  . simp only[List.nil_append,Array.size_append,List.size_toArray,hmlen,Builtin.zeroCells,Value.cells]
    simp
    omega
  . refine uF (c:=#[]) (off:=0) (Nat.le_refl _) (fun j x hx=>by simp at hx) hmin (fun j x hj=>by omega) (fun j x hx=>?_) (fun j x hx=>by simp at hx)
    rw[Nat.zero_add,Nat.zero_add]
    exact aBj (by simpa using pW hx)
 ·
  have hcs:=aCv q1 q6
  have hFb:F1 b:=(q5 b).2 rfl
  have hbv:vb≠b:=by
   rintro rfl
   exact(List.pairwise_cons.1 hAp).1 F3 (by simp) _ hFb hFv
  have hsome:∀j,off+j<c.size->(w.cell? ⟨b,off+j,none⟩).isSome=true:=fun j hj=>by rw[aE7 q1,Array.getElem?_eq_getElem hj];rfl
  have hc63:cap<=9223372036854775807:=q3
  have hFs:∀q,¬gX [F1,F2,F3] q->q≠b:=by
   rintro q hq rfl
   exact hq ⟨F1,by simp,hFb⟩
  have hold:∀(w':World) (c2:Array Value),vG w w'->w'.heap[b]?=some (.cells c2 E (0,0))->(∀q,q≠b->w'.heap[q]?=w.heap[q]?)->l.length+m.length<=cap->c2.size=c.size->zE c2 off (l.take i++m++l.drop i)->
   aFI w Av (aEo t) (l,((i:Nat):Int),m,u) [cA (sJ t).isSt [.slice (some ⟨b,off,none⟩) l.length cap],cA (Ty.int .i64).isSt [.int .i64 (i:Int)],cA (sJ t).isSt [.slice (some ⟨vb,voff,none⟩) m.length vc]] [F1,F2,F3]
    (.returned (.slice (some ⟨b,off,none⟩) (l.length+m.length) cap)) w':=by
   intro w' c2 g1 g2 g3 g4 g5 g6
   refine aAi (H:=fun q=>q=b) hAv rfl ?_ (fun q hq=>?_) (fun q hq hno=>g3 q (hFs q hno)) g1.grew
   . refine⟨_,[],_,[],rfl,rfl,⟨[_],rfl,?_⟩,rfl,rfl⟩
     have:=aCK (t:=t) (off:=off) (cap:=cap) g2 (by rw[hlenr];exact g4) q3 (by omega) g6
     rw[hlenr] at this
     exact this
   . subst hq
     exact⟨by rw[g1.size];exact aBw q1,.inl ⟨F1,by simp,hFb⟩⟩
  by_cases hroom:l.length+m.length<=cap
  . by_cases hin:i<l.length
    ·
     refine(Any2.slices_Insert_int_shift L b off l.length cap i vb voff m.length vc (vals l) (vals m) w hin p3 hroom hc63 hbv hllen hmlen hcs (fun j hj=>hsome j (by omega)) (fun j _=>tS q1) hvs rV rV
      Ev E cv.size c.size (aF5 k1) (aF5 q1) (by omega) (tS k1) (tS k1)).mono ?_
     rintro e w' ⟨rfl,rfl⟩
     have hdl:((vals l).drop i).length=l.length-i:=by rw[Zs,hllen]
     obtain⟨c1,g1,g2,g3,g4,g5,g6⟩:=nF b E (0,0) ((vals l).drop i) (off+(i+m.length)) w.drew c q1
     obtain⟨c2,e1,e2,e3,e4,e5,e6⟩:=nF b E (0,0) (vals m) (off+i) _ c1 g1
     have hev:vG w w.drew:=⟨rfl,rfl,rfl,rfl⟩
     refine hold _ c2 ((hev.trans g6).trans e6) e1 (fun q hq=>(e5 q hq).trans (g5 q hq)) hroom (e2.trans g2) ?_
     refine uF p2' q6 hmin (fun j x hj hx=>?_) (fun j x hx=>?_) (fun j x hx=>?_)
     . rw[e3 _ (by omega),g3 _ (by omega)];exact(q6 j x hx).1
     . have hj:=eW hx
       have:=e4 j _ (pW hx) (by rw[g2];omega)
       rwa [Nat.add_assoc] at this
     . have hj:=eW hx
       rw[Zs] at hj
       rw[e3 _ (by rw[hmlen];omega)]
       have hx':((vals l).drop i)[j]?=some (.int .i64 x):=by
        rw[List.getElem?_drop] at hx ⊢
        exact pW hx
       have:=g4 j _ hx' (by omega)
       rwa [Nat.add_assoc] at this
    ·
     have hie:i=l.length:=by omega
     subst hie
     refine(Any2.slices_Insert_int_end_room L b off l.length cap vb voff m.length vc (vals m) w p3 hroom hc63 hmlen (fun j hj=>by rw[Nat.add_assoc];exact hsome _ (by omega)) (fun j _=>tS q1) hvs rV).mono ?_
     rintro e w' ⟨rfl,rfl⟩
     obtain⟨c2,e1,e2,e3,e4,e5,e6⟩:=nF b E (0,0) (vals m) (off+l.length) w c q1
     refine hold _ c2 e6 e1 e5 hroom e2 ?_
     refine uF p2' q6 hmin (fun j x hj hx=>?_) (fun j x hx=>?_) (fun j x hx=>by simp at hx)
     . rw[e3 _ (by omega)];exact(q6 j x hx).1
     . have hj:=eW hx
       have:=e4 j _ (pW hx) (by omega)
       rwa [Nat.add_assoc] at this
  . by_cases hin:i<l.length
    ·
     refine(Any2.slices_Insert_int_grow L b off l.length cap i vb voff m.length vc (vals l) (vals m) w hin p3 q2 (by omega) (by omega) hllen hmlen hcs hvs rV rV).mono ?_
     rintro e w' ⟨rfl,rfl⟩
     have hdl:((vals l).drop i).length=l.length-i:=by rw[Zs,hllen]
     obtain⟨nc,hnce⟩:∃nc,nc=grownCap w (l.length+m.length) cap (ρ.t 3):=⟨_,rfl⟩
     have hnc:l.length+m.length<=nc:=by rw[hnce];simp only[grownCap,Question.cut];omega
     have hncm:nc<=maxLen:=by rw[hnce];exact xS _ _ _ _ (by unfold maxLen;omega)
     rw[<-hnce]
     obtain⟨c0,hc0⟩:∃c0,c0=((vals l).take i).toArray++Builtin.zeroCells (Value.int .i64 0).cells (l.length+m.length-i)++Builtin.zeroCells (Value.int .i64 0).cells (nc-(l.length+m.length)):=⟨_,rfl⟩
     rw[<-hc0]
     have hz:c0.size=nc:=by
      rw[hc0]
      simp only[Array.size_append,List.size_toArray,Zr,hllen,Builtin.zeroCells,Value.cells]
      simp
      omega
     have a1:=nY w (.cells c0 (ρ.t 3))
     obtain⟨c1,g1,g2,g3,g4,g5,g6⟩:=nF w.heap.size (ρ.t 3) (0,0) (vals m) i (w.alloc (.cells c0 (ρ.t 3))).drew c0 a1
     obtain⟨c2,e1,e2,e3,e4,e5,e6⟩:=nF w.heap.size (ρ.t 3) (0,0) ((vals l).drop i) (i+m.length) ((w.alloc (.cells c0 (ρ.t 3))).drew.setCells w.heap.size i (vals m)).drew c1 g1
     have hev:pZ w _:=(vL w (.cells c0 (ρ.t 3))).trans ((⟨g6.size,g6.os,g6.tape,g6.output⟩:vG (w.alloc (.cells c0 (ρ.t 3))) ((w.alloc (.cells c0 (ρ.t 3))).drew.setCells w.heap.size i (vals m)).drew).grew.trans e6.grew)
     refine hnew _ c2 nc ?_ e1 (fun q hq=>?_) hev hnc hncm (by omega) ?_
     . rw[e6.size]
       show((w.alloc (.cells c0 (ρ.t 3))).drew.setCells w.heap.size i (vals m)).heap.size=_
       rw[g6.size];exact mA _ _
     . rw[e5 q (by omega)]
       show((w.alloc (.cells c0 (ρ.t 3))).drew.setCells w.heap.size i (vals m)).heap[q]?=_
       rw[g5 q (by omega)];exact lR _ _ hq
     . refine uF p2' q6 hmin (fun j x hj hx=>?_) (fun j x hx=>?_) (fun j x hx=>?_)
       . rw[Nat.zero_add,e3 _ (by omega),g3 _ (by omega),hc0,Array.append_assoc]
         exact aBj (by rw[List.getElem?_take_of_lt hj];exact pW hx)
       . have hj:=eW hx
         rw[Nat.zero_add,e3 _ (by omega)]
         exact g4 j _ (pW hx) (by omega)
       . have hj:=eW hx
         rw[Zs] at hj
         rw[Nat.zero_add]
         exact e4 j _ (by rw[List.getElem?_drop] at hx ⊢;exact pW hx) (by omega)
    ·
     have hie:i=l.length:=by omega
     subst hie
     refine(Any2.slices_Insert_int_end_grow L (some ⟨b,off,none⟩) l.length cap vb voff m.length vc (vals l) (vals m) w p3 q2 (by omega) (by omega) hllen hmlen (fun h=>by cases h) (fun a h=>?_) hvs rV).mono ?_
     . cases h
       intro j v hv
       rw[Addr.add_lit]
       exact hcs j v hv
     rintro e w' ⟨rfl,rfl⟩
     refine hnew _ _ _ (mA _ _) (nY w.drew _) (fun q hq=>lR w.drew _ hq) (uB _ _) ?_ ?_ ?_ ?_
     . simp only[grownCap,Question.cut];omega
     . exact xS _ _ _ _ (by unfold maxLen;omega)
     . simp only[Array.size_append,List.size_toArray,Zf,hllen,hmlen,Builtin.zeroCells,Value.cells]
       simp
       omega
     . refine uF p2' q6 hmin (fun j x hj hx=>?_) (fun j x hx=>?_) (fun j x hx=>by simp at hx)
       . rw[Nat.zero_add]
         exact aBj (by rw[List.getElem?_append_left (by rw[hllen];exact hj)];exact pW hx)
       . rw[Nat.zero_add]
         exact aBj (by rw[List.getElem?_append_right (by rw[hllen];omega),hllen,Nat.add_sub_cancel_left];exact pW hx)
def aJD(t:TypeId):FS where
 ps:=[.val (sJ t) .o,.val (.int .i64) .f,.val (.int .i64) .f]
 rs:=[(sJ t,.o)]
 pre:=fun xs=>decide (0<=(xs.2.1:Int))&&(decide ((xs.2.1:Int)<=(xs.2.2.1:Int))&&decide ((xs.2.2.1:Int)<=((xs.1:List Int).length:Int)))
 fn:=fun xs=>((),((xs.1:List Int).take (xs.2.1:Int).toNat++(xs.1:List Int).drop (xs.2.2.1:Int).toNat,()))
theorem aHo{P:Program}{ρ:Ren}(L:Lays2.n23 P ρ)(t:TypeId):bF P (ρ.f 23) (aJD t):=by
 intro w Av vs xs Fs hA hAp hAv hF hp
 obtain⟨v1,r1,F1,G1,rfl,rfl,⟨cs1,rfl,h1⟩,v2,r2,F2,G2,rfl,rfl,⟨cs2,rfl,⟨h2,_⟩,h2'⟩,v3,r3,F3,G3,rfl,rfl,⟨cs3,rfl,⟨h3,_⟩,h3'⟩,rfl,rfl⟩:=hA
 obtain⟨l,k,k2,u⟩:=xs
 change List Int at l;change Int at k;change Int at k2
 have hcs2:cs2=[.int .i64 k]:=h2
 have hcs3:cs3=[.int .i64 k2]:=h3
 subst hcs2;subst hcs3
 obtain⟨a1,rfl⟩:=sI (kA (sJ t) h1)
 simp only[aJD,Zb,Za] at hp
 have p1:(0:Int)<=k:=hp.1
 have p2:k<=k2:=hp.2.1
 have p3:k2<=(l.length:Int):=hp.2.2
 clear hp
 have h1:nJ w (sJ t) l [a1] F1:=h1
 have hk:k=((k.toNat:Nat):Int):=by omega
 have hk2:k2=((k2.toNat:Nat):Int):=by omega
 have p2':k.toNat<=k2.toNat:=by omega
 have p3':k2.toNat<=l.length:=by omega
 obtain⟨i,hi⟩:∃i,i=k.toNat:=⟨_,rfl⟩
 obtain⟨j,hj⟩:∃j,j=k2.toNat:=⟨_,rfl⟩
 rw[<-hi] at hk p2'
 rw[<-hj] at hk2 p2' p3'
 subst hk;subst hk2
 have hlenr:(l.take i++l.drop j).length=l.length-(j-i):=by simp only[Zf,Zr,Zs];omega
 rcases aBS h1 with⟨rfl,rfl,hn⟩|⟨b,off,cap,c,E,rfl,q1,q2,q3,q4,q5,q6⟩
 . have hj0:j=0:=by simpa using p3'
   have hi0:i=0:=by omega
   subst hj0;subst hi0
   refine(Any.slices_Delete_int_empty L none 0 w).mono ?_
   rintro e w' ⟨rfl,rfl⟩
   refine aAi (H:=fun _=>False) hAv rfl ?_ (fun q hq=>hq.elim) (fun _ _ _=>rfl) (pZ.rfl' _)
   exact⟨_,[],_,[],rfl,rfl,⟨[_],rfl,.inl ⟨rfl,rfl,fun _ h=>h⟩⟩,rfl,rfl⟩
 . have q2:l.length<=cap:=q2
   have hFb:F1 b:=(q5 b).2 rfl
   have hFs:∀q,¬gX [F1,F2,F3] q->q≠b:=by
    rintro q hq rfl
    exact hq ⟨F1,by simp,hFb⟩
   have hH:Sort.Holds (Value.int .i64) w b off l.toArray:=by
    intro n hn
    have hn':n<l.length:=by simpa using hn
    refine⟨?_,tS q1⟩
    rw[aE7 q1,(q6 n l[n] (Zm hn')).1]
    simp[hn']
   refine(Any.slices_Delete_int L b off cap i j l w hH q2 q3 p2' p3').mono ?_
   rintro e w' ⟨rfl,n,rfl⟩
   obtain⟨c2,e1,e2,e3,e4,e5⟩:=aEx (w:=Sort.ahead w n) (off:=off) (d:=(l.take i++l.drop j++List.replicate (j-i) 0).toArray) q1
   have hev:vG w (Sort.ahead w n):=⟨rfl,rfl,rfl,rfl⟩
   refine aAi (H:=fun q=>q=b) hAv rfl ?_ (fun q hq=>?_) (fun q hq hno=>e4 q (hFs q hno)) (hev.trans e5).grew
   . refine⟨_,[],_,[],rfl,rfl,⟨[_],rfl,?_⟩,rfl,rfl⟩
     have:=aCK (t:=t) (off:=off) (cap:=cap) (xs:=l.take i++l.drop j) e1 (by rw[hlenr];omega) q3 (by omega) (fun y x hx=>?_)
     . rw[hlenr] at this
       exact this
     . have hy:=eW hx
       refine⟨e3 y x ?_ (by omega),?_⟩
       . show(l.take i++l.drop j++List.replicate (j-i) 0)[y]?=_
         rw[List.getElem?_append_left hy];exact hx
       . have hm:x∈l:=by
          rcases Zp.1 (List.mem_of_getElem? hx) with h|h
          . exact List.mem_of_mem_take h
          . exact List.mem_of_mem_drop h
         obtain⟨z,hz,rfl⟩:=List.getElem_of_mem hm
         exact(q6 z _ (Zm hz)).2
   . subst hq
     exact⟨by rw[(hev.trans e5).size];exact aBw q1,.inl ⟨F1,by simp,hFb⟩⟩
end Go.Aw
