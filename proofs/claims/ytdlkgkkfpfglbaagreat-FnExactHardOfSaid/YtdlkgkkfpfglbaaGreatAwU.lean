/-
 Arguments of a call, and what becomes of them.
-/
import Derived.Test.YtdlkgkkfpfglbaaGreatAwT
namespace Go.Aw
section
variable {cx:Cx} {φ:Nat->dJ} {ψ:Nat->Nat->Prop} {w:World} {Av:Nat->Prop} {objs:List (Nat×Obj)}
theorem zU(hO:iH cx φ ψ Av objs w):(m:Md)->(T:Ty)->(c:CT)->{x:T.D×List Nat}->{cs:List Value}->(xS m T c).ev (find objs)=some x->x.2.Nodup->c.cells cx.P φ w Av (bH objs) cs->
 ∃F,rdM w Av m T x.1 cs F/\(∀q,F q->Of φ ψ objs x.2 q)/\aEF objs x.2/\c.isSt=T.isSt
 |.f,T,c,x,cs,h,hn,hc=>by
  have h':((vA T c).bind fun x=>M.ret (x,([]:List Nat))).ev (find objs)=some x:=by cases T<;>cases c<;>exact h
  obtain⟨y,h1,h2⟩:=aG h'
  simp only[M.ev,Zc] at h2
  subst h2
  obtain⟨g1,g2⟩:=aHv T c h1 hc
  exact⟨fun _=>False,⟨g1,fun _ h=>h⟩,fun _ h=>h.elim,(fun o ho=>by cases ho),g2⟩
 |.o,T,c,x,cs,h,hn,hc=>by
  have h':(nN T c).ev (find objs)=some x:=by cases T<;>cases c<;>exact h
  exact uJ hO T c h' hn hc
 |.np _,T,c,x,cs,h,hn,hc=>by cases T<;>cases c<;>cases h
 |.pair m n,T,c,x,cs,h,hn,hc=>by
  have hdat:∀U y,c=.dat U y->∃F,rdM w Av (.pair m n) T x.1 cs F/\(∀q,F q->Of φ ψ objs x.2 q)/\aEF objs x.2/\c.isSt=T.isSt:=by
   rintro U y rfl
   have h':(bif U.flat then(pZ T U y).bind fun y=>M.ret (y,([]:List Nat)) else .fail).ev (find objs)=some x:=by cases T<;>exact h
   rw[Zi] at h'
   split at h'
   . rename_i hf
     obtain⟨z,h1,h2⟩:=aG h'
     simp only[M.ev,Zc] at h2
     subst h2
     obtain⟨rfl,rfl⟩:=iJ h1
     refine⟨qQ,flatM U (.pair m n) hf hc,fun _ h=>h.elim,(fun o ho=>by cases ho),rfl⟩
   . cases h'
  cases T with
  |pair a b=>
   cases c with
   |pair c d=>
    have h':((xS m a c).bind fun x=>(xS n b d).bind fun y=>M.ret ((x.1,y.1),x.2++y.2)).ev (find objs)=some x:=h
    obtain⟨y,h1,h2⟩:=aG h'
    obtain⟨z,h3,h4⟩:=aG h2
    simp only[M.ev,Zc] at h4
    subst h4
    have hn':=hn
    simp only[List.nodup_append] at hn'
    obtain⟨c1,c2,rfl,hc1,hc2⟩:=hc
    obtain⟨F1,g1,g2,g3,g4⟩:=zU hO m a c h1 hn'.1 hc1
    obtain⟨F2,k1,k2,k3,k4⟩:=zU hO n b d h3 hn'.2.1 hc2
    refine⟨fun q=>F1 q\/F2 q,⟨c1,c2,F1,F2,rfl,fun _=>Iff.rfl,fun q h1 h2=>jR hO hn (g2 q h1) (k2 q h2),g1,k1⟩,fun q hq=>kG.2 (hq.imp (g2 q) (k2 q)),fun o ho=>(Zp.1 ho).elim (g3 o) (k3 o),rfl⟩
   |dat U y=>exact hdat U y rfl
   |_=>cases h
  |_=>
   cases c with
   |dat U y=>exact hdat U y rfl
   |_=>cases h
where
 flatM:(U:Ty)->(m:Md)->U.flat=true->{y:U.D}->{cs:List Value}->vK w Av U y cs->rdM w Av m U y cs qQ
  |U,.f,hf,y,cs,h=>⟨h,fun _ h=>h⟩
  |U,.o,hf,y,cs,h=>mP U hf h
  |U,.np _,hf,y,cs,h=>⟨hf,h,fun _ h=>h⟩
  |U,.pair m n,hf,y,cs,h=>by
   cases U with
   |pair a b=>
    simp only[Ty.flat,Zb] at hf
    obtain⟨c1,c2,rfl,h1,h2⟩:=h
    exact⟨c1,c2,qQ,qQ,rfl,fun q=>by simp[qQ],fun _ h=>h.elim,flatM a m hf.1 h1,flatM b n hf.2 h2⟩
   |_=>exact⟨hf,h,fun _ h=>h⟩
theorem qP{Av':Nat->Prop}(hA:∀b,Av b->Av' b):(m:Md)->(T:Ty)->{x:T.D}->{cs:List Value}->{F:Nat->Prop}->rdM w Av m T x cs F->rdM w Av' m T x cs F
 |.f,T,x,cs,F,h=>⟨lG hA (fun _ _=>rfl) T h.1,h.2⟩
 |.o,T,x,cs,F,h=>h
 |.np _,T,x,cs,F,h=>⟨h.1,lG hA (fun _ _=>rfl) _ h.2.1,h.2.2⟩
 |.pair m n,T,x,cs,F,h=>by
  cases T with
  |pair a b=>
   obtain⟨c1,c2,F1,F2,h1,h2,h3,h4,h5⟩:=h
   exact⟨c1,c2,F1,F2,h1,h2,h3,qP hA m a h4,qP hA n b h5⟩
  |_=>exact⟨h.1,lG hA (fun _ _=>rfl) _ h.2.1,h.2.2⟩
theorem tB{Av':Nat->Prop}:(m:Md)->(T:Ty)->T.flat=true->{x:T.D}->{cs:List Value}->{F:Nat->Prop}->rdM w Av m T x cs F->rdM w Av' m T x cs F
 |.f,T,hf,x,cs,F,h=>⟨aE7 T hf h.1,h.2⟩
 |.o,T,hf,x,cs,F,h=>h
 |.np _,T,hf,x,cs,F,h=>⟨h.1,aE7 _ hf h.2.1,h.2.2⟩
 |.pair m n,T,hf,x,cs,F,h=>by
  cases T with
  |pair a b=>
   simp only[Ty.flat,Zb] at hf
   obtain⟨c1,c2,F1,F2,h1,h2,h3,h4,h5⟩:=h
   exact⟨c1,c2,F1,F2,h1,h2,h3,tB m a hf.1 h4,tB n b hf.2 h5⟩
  |_=>exact⟨h.1,aE7 _ hf h.2.1,h.2.2⟩
theorem aJx:(m:Md)->(T:Ty)->{x:T.D}->{cs:List Value}->{F:Nat->Prop}->rdM w Av m T x cs F->cs.length=T.sz
 |.f,T,x,cs,F,h=>tE T h.1
 |.o,T,x,cs,F,h=>nL T h
 |.np _,T,x,cs,F,h=>tE _ h.2.1
 |.pair m n,T,x,cs,F,h=>by
  cases T with
  |pair a b=>
   obtain⟨c1,c2,F1,F2,rfl,h2,h3,h4,h5⟩:=h
   rw[Zf,aJx m a h4,aJx n b h5];rfl
  |_=>exact tE _ h.2.1
inductive eO(cx:Cx)(φ:Nat->dJ)(ψ:Nat->Nat->Prop)(objs:List (Nat×Obj))(w w':World)(K:Nat->Prop)(Av':Nat->Prop)(φ2:Nat->dJ)(ψ2:Nat->Nat->Prop)(l:List (Nat×Obj))(o:Nat):Obj->Prop where
 |dead:eO cx φ ψ objs w w' K Av' φ2 ψ2 l o .dead
 |arr (t:TypeId) (e:Ty) (xs:List e.D) (he:(φ2 o).e=e) (hr:qW w' (.sl t e) xs [(φ2 o).hdr] (ψ2 o)) (hold:(find objs o).isSome=true->bH objs o/\((φ o).e.flat=true\/K o)):eO cx φ ψ objs w w' K Av' φ2 ψ2 l o (.arr t e xs)
 |box (V T:Ty) (c d:CT) (p:List Nat) (vs:List Value) (c':Array Value) (ho:find objs o=some (.box V c)) (hp:V.atn p=some T) (hv:Vl cx.P φ2 w' Av' T d l vs)
  (hb:w'.heap[(φ o).b]?=some (.cells c' (φ o).E (φ o).fr)) (hc:∀mid,mid.length=V.sz->w.heap[(φ o).b]?=some (.cells ((φ o).pre++mid++(φ o).post).toArray (φ o).E (φ o).fr)->c'.toList=(φ o).pre++eS mid (V.offp p) vs++(φ o).post):
  eO cx φ ψ objs w w' K Av' φ2 ψ2 l o (.box V (c.setp p d))
 |keep (c:CT) (ho:find objs o=some (.box .op c)) (hd:c.deep=[]) (hφ:φ2 o=φ o) (hb:w'.heap[(φ o).b]?=w.heap[(φ o).b]?):eO cx φ ψ objs w w' K Av' φ2 ψ2 l o (.box .op c)
 |new (T:Ty) (c:CT) (vs:List Value) (hT:(φ2 o).T=T) (hv:Vl cx.P φ2 w' Av' T c l vs) (hb:w'.heap[(φ2 o).b]?=some (.cells ((φ2 o).pre++vs++(φ2 o).post).toArray (φ2 o).E (φ2 o).fr)) (hf:xV (φ2 o).fr (φ2 o).pre.length T.sz):eO cx φ ψ objs w w' K Av' φ2 ψ2 l o (.box T c)
structure Bk(cx:Cx)(φ:Nat->dJ)(ψ:Nat->Nat->Prop)(objs:List (Nat×Obj))(w w':World)(K:Nat->Prop)(Av':Nat->Prop)(φ1 φ2:Nat->dJ)(ψ1 ψ2:Nat->Nat->Prop)(go:List Nat)(l:List (Nat×Obj))(n n':Nat)(G:Nat->Prop):Prop where
 le:n<=n'
 hφ:∀o,o<n\/n'<=o->φ2 o=φ1 o
 hψ:∀o,(o<n\/n'<=o)->o∉go->ψ2 o=ψ1 o
 keys:∀p∈l,p.1∈go\/(n<=p.1/\p.1<n')
 all:∀o∈go,o∈l.map (·.1)
 nod:(l.map (·.1)).Nodup
 item:∀p∈l,eO cx φ ψ objs w w' K Av' φ2 ψ2 l p.1 p.2
 blk:∀p∈l,∀q,kL φ2 ψ2 p.1 p.2 q->G q
 dis:∀p∈l,∀p'∈l,p.1≠p'.1->∀q,kL φ2 ψ2 p.1 p.2 q->¬kL φ2 ψ2 p'.1 p'.2 q
variable {w':World} {K Av':Nat->Prop}
theorem Bk.none{φ1:Nat->dJ}{ψ1:Nat->Nat->Prop}{n:Nat}{G:Nat->Prop}:Bk cx φ ψ objs w w' K Av' φ1 φ1 ψ1 ψ1 [] [] n n G:=
 ⟨Nat.le_refl _,fun _ _=>rfl,fun _ _ _=>rfl,(fun p hp=>by cases hp),(fun p hp=>by cases hp),(by simp),(fun p hp=>by cases hp),(fun p hp=>by cases hp),(fun p hp=>by cases hp)⟩
theorem Vl.more{P:Program}{φ:Nat->dJ}{T:Ty}{c:CT}{l l':List (Nat×Obj)}{cs:List Value}(h:Vl P φ w Av T c l cs)(hl:∀q∈l.map (·.1),q∈l'.map (·.1)):Vl P φ w Av T c l' cs:=
 ⟨h.cells,h.fits,h.df,h.st,fun q hq=>hl q (h.named q hq),h.deep⟩
theorem eO.agr{φ2 φ3:Nat->dJ}{ψ2 ψ3:Nat->Nat->Prop}{l l':List (Nat×Obj)}{o:Nat}{x:Obj}(h:eO cx φ ψ objs w w' K Av' φ2 ψ2 l o x)(hφ:φ3 o=φ2 o)(hψ:ψ3 o=ψ2 o)(hl:∀p∈l,φ3 p.1=φ2 p.1)
 (hm:∀q∈l.map (·.1),q∈l'.map (·.1)):eO cx φ ψ objs w w' K Av' φ3 ψ3 l' o x:=by
 cases h with
 |dead=>exact .dead
 |arr t e xs he hr hold=>exact .arr t e xs (by rw[hφ];exact he) (by rw[hφ,hψ];exact hr) hold
 |box V T c d p vs c' ho hp hv hb hc=>exact .box V T c d p vs c' ho hp ((hv.agr hl).more hm) hb hc
 |keep c ho hd hf hb=>exact .keep c ho hd (hφ.trans hf) hb
 |new T c vs hT hv hb hf=>exact .new T c vs (by rw[hφ];exact hT) ((hv.agr hl).more hm) (by rw[hφ];exact hb) (by rw[hφ];exact hf)
theorem Bk.app{φ1 φ2 φ3:Nat->dJ}{ψ1 ψ2 ψ3:Nat->Nat->Prop}{g1 g2:List Nat}{l r:List (Nat×Obj)}{n n1 n2:Nat}{G1 G2 G:Nat->Prop}(h:Bk cx φ ψ objs w w' K Av' φ1 φ2 ψ1 ψ2 g1 l n n1 G1)
 (g:Bk cx φ ψ objs w w' K Av' φ2 φ3 ψ2 ψ3 g2 r n1 n2 G2) (hg:(g1++g2).Nodup) (hk:∀o∈g1++g2,Aw.keys objs o) (hfr:∀o,n<=o->o<n2->find objs o=Option.none) (hd:∀q,G1 q->¬G2 q) (h1:∀q,G1 q->G q) (h2:∀q,G2 q->G q):
 Bk cx φ ψ objs w w' K Av' φ1 φ3 ψ1 ψ3 (g1++g2) (l++r) n n2 G:=by
 have hl:=h.le
 have gl:=g.le
 rw[List.nodup_append] at hg
 have hkn:∀o∈g1++g2,o<n\/n2<=o:=by
  intro o ho
  have h3:=hk o ho
  unfold Aw.keys at h3
  rcases Nat.lt_or_ge o n with h4|h4
  . exact .inl h4
  . rcases Nat.lt_or_ge o n2 with h5|h5
    . rw[hfr o h4 h5] at h3;cases h3
    . exact .inr h5
 have hk1:∀o∈g1,o<n\/n2<=o:=fun o ho=>hkn o (Zp.2 (.inl ho))
 have hk2:∀o∈g2,o<n\/n2<=o:=fun o ho=>hkn o (Zp.2 (.inr ho))
 have hlr:∀p∈l,p.1<n1\/n2<=p.1:=fun p hp=>by
  rcases h.keys p hp with h3|h3
  . have:=hk1 _ h3;omega
  . omega
 have hl2:∀p∈l,p.1∉g2:=fun p hp hp2=>by
  rcases h.keys p hp with h3|h3
  . exact hg.2.2 _ h3 _ hp2 rfl
  . have:=hk2 _ hp2;omega
 have e1:∀p∈l,φ3 p.1=φ2 p.1/\ψ3 p.1=ψ2 p.1:=fun p hp=>⟨g.hφ _ (hlr p hp),g.hψ _ (hlr p hp) (hl2 p hp)⟩
 have eb:∀p∈l,∀q,kL φ3 ψ3 p.1 p.2 q↔kL φ2 ψ2 p.1 p.2 q:=fun p hp q=>by
  obtain⟨h3,h4⟩:=e1 p hp
  cases p.2<;>simp only[kL,h3,h4]
 refine⟨by omega,fun o ho=>?_,fun o ho hn=>?_,fun p hp=>?_,fun o ho=>?_,?_,fun p hp=>?_,fun p hp q hq=>?_,fun p hp p' hp' hne q hq hq'=>?_⟩
 . rw[g.hφ o (by omega),h.hφ o (by omega)]
 . rw[Zp,not_or] at hn
   rw[g.hψ o (by omega) hn.2,h.hψ o (by omega) hn.1]
 . rcases Zp.1 hp with hp|hp
   . rcases h.keys p hp with h3|h3
     . exact .inl (Zp.2 (.inl h3))
     . exact .inr (by omega)
   . rcases g.keys p hp with h3|h3
     . exact .inl (Zp.2 (.inr h3))
     . exact .inr (by omega)
 . rw[List.map_append,Zp]
   exact(Zp.1 ho).imp (h.all o) (g.all o)
 . rw[List.map_append,List.nodup_append]
   refine⟨h.nod,g.nod,fun a ha b hb=>?_⟩
   obtain⟨p,hp,rfl⟩:=List.mem_map.1 ha
   obtain⟨p',hp',rfl⟩:=List.mem_map.1 hb
   intro e
   rcases g.keys p' hp' with h3|h3
   . exact hl2 p hp (e▸h3)
   . have:=hlr p hp
     rw[e] at this;omega
 . rcases Zp.1 hp with hp|hp
   . exact(h.item p hp).agr (e1 p hp).1 (e1 p hp).2 (fun p' hp'=>(e1 p' hp').1) (fun q hq=>by rw[List.map_append,Zp];exact .inl hq)
   . exact(g.item p hp).agr rfl rfl (fun _ _=>rfl) (fun q hq=>by rw[List.map_append,Zp];exact .inr hq)
 . rcases Zp.1 hp with hp|hp
   . exact h1 q (h.blk p hp q ((eb p hp q).1 hq))
   . exact h2 q (g.blk p hp q hq)
 . rcases Zp.1 hp with hp|hp<;>rcases Zp.1 hp' with hp'|hp'
   . exact h.dis p hp p' hp' hne q ((eb p hp q).1 hq) ((eb p' hp' q).1 hq')
   . exact hd q (h.blk p hp q ((eb p hp q).1 hq)) (g.blk p' hp' q hq')
   . exact hd q (h.blk p' hp' q ((eb p' hp' q).1 hq')) (g.blk p hp q hq)
   . exact g.dis p hp p' hp' hne q hq hq'
theorem eO.weak{K':Nat->Prop}(hK:∀o,K o->K' o){φ2:Nat->dJ}{ψ2:Nat->Nat->Prop}{l:List (Nat×Obj)}{o:Nat}{x:Obj}(h:eO cx φ ψ objs w w' K Av' φ2 ψ2 l o x):eO cx φ ψ objs w w' K' Av' φ2 ψ2 l o x:=by
 cases h with
 |dead=>exact .dead
 |arr t e xs he hr hold=>exact .arr t e xs he hr fun h=>⟨(hold h).1,(hold h).2.imp id (hK o)⟩
 |box V T c d p vs c' ho hp hv hb hc=>exact .box V T c d p vs c' ho hp hv hb hc
 |keep c ho hd hf hb=>exact .keep c ho hd hf hb
 |new T c vs hT hv hb hf=>exact .new T c vs hT hv hb hf
theorem Bk.weak{K':Nat->Prop}(hK:∀o,K o->K' o){φ1 φ2:Nat->dJ}{ψ1 ψ2:Nat->Nat->Prop}{g:List Nat}{l:List (Nat×Obj)}{n n':Nat}{G:Nat->Prop}(h:Bk cx φ ψ objs w w' K Av' φ1 φ2 ψ1 ψ2 g l n n' G):
 Bk cx φ ψ objs w w' K' Av' φ1 φ2 ψ1 ψ2 g l n n' G:=
 ⟨h.le,h.hφ,h.hψ,h.keys,h.all,h.nod,fun p hp=>(h.item p hp).weak hK,h.blk,h.dis⟩
theorem aEi.bk{φ1 φ2:Nat->dJ}{ψ1 ψ2:Nat->Nat->Prop}{l:List (Nat×Obj)}{n n':Nat}{G:Nat->Prop}(h:aEi φ1 φ2 ψ1 ψ2 w' l n n' G)(hfr:∀o,n<=o->o<n'->find objs o=Option.none):
 Bk cx φ ψ objs w w' K Av' φ1 φ2 ψ1 ψ2 [] l n n' G:=by
 have hb:∀p∈l,∀q,kL φ2 ψ2 p.1 p.2 q->ψ2 p.1 q:=by
  intro p hp q hq
  obtain⟨t,e,xs,h1,_⟩:=h.arr p hp
  rw[h1] at hq;exact hq
 refine⟨h.le,h.hφ,fun o ho _=>h.hψ o ho,fun p hp=>.inr (h.keys p hp),(fun o ho=>by cases ho),h.nod,fun p hp=>?_,fun p hp q hq=>h.fp p hp q (hb p hp q hq),fun p hp p' hp' hne q hq hq'=>h.dis p hp p' hp' hne q (hb p hp q hq) (hb p' hp' q hq')⟩
 obtain⟨t,e,xs,h1,h2,h3⟩:=h.arr p hp
 rw[h1]
 refine .arr t e xs h2 h3 fun hs=>?_
 obtain⟨h4,h5⟩:=h.keys p hp
 rw[hfr _ h4 h5] at hs;cases hs
theorem Bk.gone{φ1:Nat->dJ}{ψ1:Nat->Nat->Prop}{ids:List Nat}{n:Nat}{G:Nat->Prop}(hn:ids.Nodup):Bk cx φ ψ objs w w' K Av' φ1 φ1 ψ1 ψ1 ids (gone ids) n n G:=by
 have hk:(Aw.gone ids).map (·.1)=ids:=by simp[Aw.gone,Function.comp_def]
 have hx:∀p∈Aw.gone ids,p.2=.dead/\p.1∈ids:=by
  intro p hp
  obtain⟨o,ho,rfl⟩:=List.mem_map.1 hp
  exact⟨rfl,ho⟩
 exact⟨Nat.le_refl _,fun _ _=>rfl,fun _ _ _=>rfl,fun p hp=>.inl (hx p hp).2,fun o ho=>by rw[hk];exact ho,by rw[hk];exact hn,fun p hp=>by rw[(hx p hp).1];exact .dead,
  fun p hp q hq=>by rw[(hx p hp).1] at hq;exact hq.elim,fun p hp _ _ _ q hq=>by rw[(hx p hp).1] at hq;exact hq.elim⟩
end
end Go.Aw
