/-
 Steps of the state: some objects are changed, the others stay.
-/
import Derived.Test.YtdlkgkkfpfglbaaGreatAwG
namespace Go.Aw
open Go.IntKind (wrap)
open List (length)
theorem aGr{w w':World}{U:Ty}{b' off':Nat}:(p:List qR)->(T:Ty)->(x:T.D)->(b off:Nat)->(c:Array Value)->(E:TypeId)->(fr:Nat×Nat)->(F:Nat->Prop)->
 w.heap[b]?=some (.cells c E fr)->off+T.sz<=c.toList.length->qW w T x (fX c.toList off T.sz) F->(∀q,q=b\/F q->w'.heap[q]?=w.heap[q]?)->
 rX w p T b off=some (U,b',off')->rX w' p T b off=some (U,b',off')
 |[],_,_,_,_,_,_,_,_,_,_,_,_,hr=>hr
 |.f k::p,T,x,b,off,c,E,fr,F,hb,hl,h,hw,hr=>by
  simp only[rX] at hr ⊢
  cases hn:T.nth k with
  |none=>rw[hn] at hr;cases hr
  |some V=>
   rw[hn] at hr
   have hle:=aCJ T hn
   obtain⟨y1,F1,h1,h2,h3,_⟩:=aIQ hn h hl
   exact aGr p V y1 b (off+T.offn k) c E fr F1 hb (by omega) h2 (fun q hq=>hw q (hq.imp id (h3 q))) hr
 |.i n::p,T,x,b,off,c,E,fr,F,hb,hl,h,hw,hr=>by
  cases T with
  |sl t e=>
   simp only[rX] at hr ⊢
   rw[pV ((hw b (.inl rfl)).trans hb)]
   rw[pV hb] at hr
   simp only[Option.bind_some] at hr ⊢
   have hlt:off<c.toList.length:=by simp only[Ty.sz] at hl;omega
   have hs:fX c.toList off (Ty.sl t e).sz=[c.toList[off]]:=by
    unfold fX;simp only[Ty.sz]
    rw[Zn hlt];rfl
   rw[hs] at h
   rw[Zm hlt] at hr ⊢
   rcases h with⟨h1,_⟩|⟨b1,off1,cap,d,E1,fr1,Fs,h1,h2,h3,h4,h5,h6,h7,h8,h9,h10⟩
   . simp only[List.cons.injEq,and_true] at h1
     rw[h1] at hr;cases hr
   . simp only[List.cons.injEq,and_true] at h1
     rw[h1] at hr ⊢
     simp only[] at hr ⊢
     split at hr
     . rename_i hnl
       rw[if_pos hnl]
       have hx:=h10 n _ (Zm hnl)
       have hmul:=dT (k:=e.sz) (Nat.lt_of_lt_of_le hnl h3)
       exact aGr p e _ b1 (off1+n*e.sz) d E1 fr1 (Fs n) h2 (by rw[Array.length_toList (xs:=d)];omega) hx
        (fun q hq=>hw q (.inr ((h7 q).2 (hq.imp id fun hq=>⟨n,hnl,hq⟩)))) hr
     . cases hr
  |int k=>simp[rX] at hr
  |bool=>simp[rX] at hr
  |str=>simp[rX] at hr
  |op=>simp[rX] at hr
  |unit=>simp[rX] at hr
  |pair a b=>simp[rX] at hr
theorem aEl{w:World}{φ:Nat->dJ}{F:Nat->Prop}{o:Nat}{t:TypeId}{e U:Ty}{xs:List e.D}{b' off':Nat}{p:List qR}(he:(φ o).e=e)(h:qW w (.sl t e) xs [(φ o).hdr] F)
 (hr:rC φ w o p=some (U,b',off')):
 ∃y F' c1 E1 fr1,(Ty.sl t e).get p xs=⟨U,y⟩/\w.heap[b']?=some (.cells c1 E1 fr1)/\off'+U.sz<=c1.toList.length/\qW w U y (fX c1.toList off' U.sz) F'/\(∀q,F' q->F q)/\¬F' b'/\
  F b'/\xV fr1 off' U.sz/\
  (∀(φ':Nat->dJ) (w':World),φ' o=φ o->(∀q,F q->w'.heap[q]?=w.heap[q]?)->rC φ' w' o p=some (U,b',off'))/\
  ∀(w':World) (y':U.D) (G:Nat->Prop) (c2:Array Value),aCD w w' b' off' U.sz c2->qW w' U y' (fX c2.toList off' U.sz) G->
   (∀q,F q->q≠b'->¬F' q->w'.heap[q]?=w.heap[q]?)->(∀q,G q->F q->F' q)->
   qW w' (.sl t e) ((Ty.sl t e).set p xs ⟨U,y'⟩) [(φ o).hdr] (fun q=>(F q/\¬F' q)\/G q):=by
 subst he
 cases p with
 |nil=>simp[rC] at hr
 |cons s p=>
 cases s with
 |f k=>simp[rC] at hr
 |i n=>
 simp only[rC] at hr
 rcases h with⟨h1,_⟩|⟨b1,off1,cap,d,E1,fr1,Fs,h1,h2,h3,h4,h5,h6,h7,h8,h9,h10⟩
 . simp only[List.cons.injEq,and_true] at h1
   rw[h1] at hr;cases hr
 . simp only[List.cons.injEq,and_true] at h1
   rw[h1] at hr
   simp only[] at hr
   split at hr
   . rename_i hnl
     have hxn:(xs:List (φ o).e.D)[n]?=some (xs[n]):=Zm hnl
     have hx:=h10 n _ hxn
     have hmul:=dT (k:=(φ o).e.sz) (Nat.lt_of_lt_of_le hnl h3)
     have hmul':=dT (k:=(φ o).e.sz) hnl
     have hdl:off1+n*(φ o).e.sz+(φ o).e.sz<=d.toList.length:=by rw[Array.length_toList (xs:=d)];omega
     obtain⟨y,F',c1,E2,fr2,g1,g2,g3,g4,g5,g6,g7,g8⟩:=aNB p (φ o).e _ b1 (off1+n*(φ o).e.sz) d E1 fr1 (Fs n) h2 hdl (h8 n hnl) hx hr
     have hFb':F b':=by
      rcases g7 with⟨e1,_⟩|⟨e1,_⟩
      . exact(h7 b').2 (.inl e1)
      . exact(h7 b').2 (.inr ⟨n,hnl,e1⟩)
     refine⟨y,F',c1,E2,fr2,?_,g2,g3,g4,fun q hq=>(h7 q).2 (.inr ⟨n,hnl,g5 q hq⟩),g6,hFb',?_,?_,?_⟩
     . simp only[Ty.get,aC0 hxn];exact g1
     . rcases g7 with⟨e1,e2,e3⟩|⟨e1,e2⟩
       . subst e1
         rw[h2] at g2;cases g2
         exact tC h6 (by omega) (by omega)
       . exact e2
     . intro φ' w' hφ hw
       simp only[rC,hφ,h1,if_pos hnl]
       exact aGr p _ _ b1 _ d E1 fr1 (Fs n) h2 hdl hx (fun q hq=>hw q ((h7 q).2 (hq.imp id fun hq=>⟨n,hnl,hq⟩))) hr
     . intro w' y' G c2 ht hy hw hG
       have hFn:∀q,q=b1\/Fs n q->F q:=fun q hq=>(h7 q).2 (hq.imp id fun hq=>⟨n,hnl,hq⟩)
       obtain⟨c3,g9,g10⟩:=g8 w' y' G c2 ht hy (fun q hq=>hw q (hFn q hq)) (fun q hq hq'=>hG q hq (hFn q hq'))
       obtain⟨k1,k2,k3⟩:=g9 d E1 fr1 h2
       rw[h1]
       have hlen:length (α:=(φ o).e.D) ((Ty.sl t (φ o).e).set (.i n::p) xs ⟨U,y'⟩)=length (α:=(φ o).e.D) xs:=by simp only[aGh,List.length_set]
       refine .inr ⟨b1,off1,cap,c3,E1,fr1,fun i q=>if i=n then(Fs n q/\¬F' q)\/G q else Fs i q,by rw[hlen],k1,by rw[hlen];exact h3,h4,
        by rw[k2];exact h5,h6,?_,?_,?_,?_⟩
       . intro q
         rw[hlen]
         constructor
         . rintro(⟨h11,h12⟩|h11)
           . rcases(h7 q).1 h11 with h13|⟨i,hi,h13⟩
             . exact .inl h13
             . refine .inr ⟨i,hi,?_⟩
               by_cases hin:i=n
               . subst hin;simp only[if_true];exact .inl ⟨h13,h12⟩
               . simp only[if_neg hin];exact h13
           . exact .inr ⟨n,hnl,by simp only[if_true];exact .inr h11⟩
         . rintro(h11|⟨i,hi,h11⟩)
           . exact .inl ⟨(h7 q).2 (.inl h11),fun hq=>h8 n hnl (h11▸g5 q hq)⟩
           . by_cases hin:i=n
             . subst hin;simp only[if_true] at h11
               exact h11.imp (fun h12=>⟨(h7 q).2 (.inr ⟨i,hi,h12.1⟩),h12.2⟩) id
             . simp only[if_neg hin] at h11
               exact .inl ⟨(h7 q).2 (.inr ⟨i,hi,h11⟩),fun hq=>h9 i n q hi hnl hin h11 (g5 q hq)⟩
       . intro i hi
         rw[hlen] at hi
         by_cases hin:i=n
         . subst hin;simp only[if_true]
           rintro(⟨h11,_⟩|h11)
           . exact h8 i hi h11
           . exact h8 i hi (g5 b1 (hG b1 h11 ((h7 b1).2 (.inl rfl))))
         . simp only[if_neg hin];exact h8 i hi
       . intro i j q hi hj hij hiq hjq
         rw[hlen] at hi hj
         have hGF:∀k,k<length (α:=(φ o).e.D) xs->Fs k q->G q->Fs n q:=fun k hk h11 h12=>g5 q (hG q h12 ((h7 q).2 (.inr ⟨k,hk,h11⟩)))
         by_cases hin:i=n
         . subst hin
           have hjn:j≠i:=Ne.symm hij
           simp only[if_true] at hiq
           simp only[if_neg hjn] at hjq
           rcases hiq with⟨h11,_⟩|h11
           . exact h9 i j q hi hj hij h11 hjq
           . exact h9 i j q hi hj hij (hGF j hj hjq h11) hjq
         . simp only[if_neg hin] at hiq
           by_cases hjn:j=n
           . subst hjn
             simp only[if_true] at hjq
             rcases hjq with⟨h11,_⟩|h11
             . exact h9 i j q hi hj hij hiq h11
             . exact h9 i j q hi hj hij hiq (hGF i hi hiq h11)
           . simp only[if_neg hjn] at hjq
             exact h9 i j q hi hj hij hiq hjq
       . intro i z hz
         simp only[aGh] at hz
         by_cases hin:i=n
         . subst hin
           simp only[if_true]
           rw[List.getElem?_set_self hnl] at hz
           simp only[Zc] at hz
           subst hz
           rw[aC0 hxn]
           exact g10
         . simp only[if_neg hin]
           rw[List.getElem?_set_ne (Ne.symm hin)] at hz
           have hi:=jD hz
           have hz':=h10 i z hz
           have hsg:fX c3.toList (off1+i*(φ o).e.sz) (φ o).e.sz=fX d.toList (off1+i*(φ o).e.sz) (φ o).e.sz:=by
            refine aB7 fun j hj1 hj2=>k3 j ?_
            rcases Nat.lt_or_gt_of_ne hin with hlt'|hgt
            . have:=dT (k:=(φ o).e.sz) hlt';omega
            . have:=dT (k:=(φ o).e.sz) hgt;omega
           rw[hsg]
           refine sO _ (fun q hq=>hw q ((h7 q).2 (.inr ⟨i,hi,hq⟩)) ?_ (fun hq'=>h9 i n q hi hnl hin hq (g5 q hq'))) hz'
           rintro rfl
           rcases g7 with⟨e1,_⟩|⟨e1,_⟩
           . exact h8 i hi (e1▸hq)
           . exact h9 i n q hi hnl hin hq e1
   . cases hr
theorem zQ{w w':World}{φ φ':Nat->dJ}{F:Nat->Prop}{o:Nat}{t:TypeId}{e:Ty}{xs:List e.D}(he:(φ o).e=e)(h:qW w (.sl t e) xs [(φ o).hdr] F)(hφ:φ' o=φ o)
 (hw:∀q,F q->w'.heap[q]?=w.heap[q]?):oE φ w φ' w' o:=by
 intro p U b off hr
 obtain⟨y,F',c1,E1,fr1,_,_,_,_,_,_,h1,_,h2,_⟩:=aEl he h hr
 exact⟨h2 φ' w' hφ hw,fun _ _ _=>by rw[vV (hw b h1)]⟩
theorem aKl{objs objs':List (Nat×Obj)}{o:Nat}(h:find objs' o=find objs o):bH objs' o↔bH objs o:=by unfold bH;rw[h]
structure sS(cx:Cx)(φ:Nat->dJ)(ψ:Nat->Nat->Prop)(Av:Nat->Prop)(objs:List (Nat×Obj))(w:World)(φ':Nat->dJ)(ψ':Nat->Nat->Prop)(Av':Nat->Prop)(objs' upd:List (Nat×Obj))(w':World):Prop where
 hf:∀o,find objs' o=(find upd o).or (find objs o)
 hφ:∀o,(find objs o).isSome=true\/10000000<=o->φ' o=φ o
 hψ:∀o,(find objs o).isSome=true->find upd o=none->ψ' o=ψ o
 hA:∀b,Av b->Av' b
 hA':∀b,Av' b->Av b\/(b<w'.heap.size/\(∀o x,find objs o=some x->find upd o=none->¬kL φ ψ o x b)/\(∀o x,find upd o=some x->¬kL φ' ψ' o x b)/\(cx.w0.heap.size<=b\/cx.fp0 b))
 hw:∀b,b<w.heap.size->(∀o x,find objs o=some x->(find upd o).isSome=true->¬kL φ ψ o x b)->w'.heap[b]?=w.heap[b]?
 hsz:vF w w'
 hrep:∀o x,find upd o=some x->x.rep cx.P φ' ψ' w' Av' (bH objs') o
 hblk:∀o x,find upd o=some x->∀b,kL φ' ψ' o x b->b<w'.heap.size/\(w.heap.size<=b\/∃o' x',find objs o'=some x'/\(find upd o').isSome=true/\kL φ ψ o' x' b)
 hdis:∀o x o' x',find upd o=some x->find upd o'=some x'->o≠o'->∀b,kL φ' ψ' o x b->¬kL φ' ψ' o' x' b
 hnm:∀o x,find upd o=some x->∀q∈x.named,(find objs' q).isSome=true
 hdeep:∀o x,find objs o=some x->find upd o=none->∀q∈x.deep,(find upd q).isSome=true->bH objs' q->bH objs q/\oE φ w φ' w' q
section step
variable {cx:Cx} {φ φ':Nat->dJ} {ψ ψ':Nat->Nat->Prop} {Av Av':Nat->Prop} {objs objs' upd:List (Nat×Obj)} {w w':World}
theorem aFC(h:iH cx φ ψ Av objs w)(s:sS cx φ ψ Av objs w φ' ψ' Av' objs' upd w'){o:Nat}{x:Obj}(ho:find objs o=some x)(hn:find upd o=none):
 ∀b,kL φ ψ o x b->w'.heap[b]?=w.heap[b]?:=by
 intro b hb
 refine s.hw b (h.own o x ho b hb).1 fun o' x' ho' hu hb'=>?_
 refine h.disj o x o' x' ho ho' ?_ b hb hb'
 rintro rfl
 rw[hn] at hu;cases hu
theorem aJH(h:iH cx φ ψ Av objs w)(s:sS cx φ ψ Av objs w φ' ψ' Av' objs' upd w'):∀b,Av b->w'.heap[b]?=w.heap[b]?:=fun b hb=>
 s.hw b (h.av b hb).1 fun o x ho _=>(h.av b hb).2.1 o x ho
theorem aFG(h:iH cx φ ψ Av objs w)(s:sS cx φ ψ Av objs w φ' ψ' Av' objs' upd w'){q:Nat}(hq:(find upd q).isSome=true->bH objs' q->bH objs q/\oE φ w φ' w' q):
 bH objs' q->bH objs q/\oE φ w φ' w' q:=by
 intro ha
 cases hu:find upd q with
 |some x=>exact hq (by rw[hu];rfl) ha
 |none=>
  have hfq:find objs' q=find objs q:=by rw[s.hf,hu];rfl
  have ha':=(aKl hfq).1 ha
  refine⟨ha',?_⟩
  obtain⟨t,e,xs,hx⟩:=ha'
  obtain⟨he,hr⟩:=h.reps q _ hx
  exact zQ he hr (s.hφ q (.inl (by rw[hx];rfl))) (fun b hb=>aFC h s hx hu b hb)
theorem iH.step(h:iH cx φ ψ Av objs w)(s:sS cx φ ψ Av objs w φ' ψ' Av' objs' upd w'):iH cx φ' ψ' Av' objs' w':=by
 have hold:∀o x,find objs' o=some x->find upd o=some x\/(find upd o=none/\find objs o=some x):=by
  intro o x ho
  rw[s.hf] at ho
  cases hu:find upd o with
  |some y=>rw[hu] at ho;exact .inl ho
  |none=>rw[hu] at ho;exact .inr ⟨rfl,ho⟩
 have hφo:∀o x,find objs o=some x->φ' o=φ o:=fun o x ho=>s.hφ o (.inl (by rw[ho];rfl))
 have hψo:∀o x,find objs o=some x->find upd o=none->ψ' o=ψ o:=fun o x ho=>s.hψ o (by rw[ho];rfl)
 have hoblk:∀o x,find objs o=some x->find upd o=none->∀b,kL φ' ψ' o x b↔kL φ ψ o x b:=by
  intro o x ho hn b
  have h1:=hφo o x ho
  have h2:=hψo o x ho hn
  cases x<;>simp only[kL,h1,h2]
 have hsome:∀q,(find objs q).isSome=true->(find objs' q).isSome=true:=by
  intro q hq
  rw[s.hf]
  cases find upd q with
  |some y=>rfl
  |none=>exact hq
 constructor
 case reps=>
  intro o x ho
  rcases hold o x ho with ho|⟨hn,ho⟩
  . exact s.hrep o x ho
  . refine aEI s.hA (aJH h s) (hφo o x ho) (hψo o x ho hn) x (fun q hq=>?_) (fun q hq=>aFG h s (s.hdeep o x ho hn q hq)) (aFC h s ho hn) (h.reps o x ho)
    exact s.hφ q (.inl (h.names o x ho q hq))
 case disj=>
  intro o x o' x' ho ho' hne b hb hb'
  rcases hold o x ho with ho|⟨hn,ho⟩<;>rcases hold o' x' ho' with ho'|⟨hn',ho'⟩
  . exact s.hdis o x o' x' ho ho' hne b hb hb'
  . rw[hoblk o' x' ho' hn'] at hb'
    rcases(s.hblk o x ho b hb).2 with h1|⟨q,y,hq,hu,hy⟩
    . exact absurd (h.own o' x' ho' b hb').1 (by omega)
    . refine h.disj o' x' q y ho' hq ?_ b hb' hy
      rintro rfl
      rw[hn'] at hu;cases hu
  . rw[hoblk o x ho hn] at hb
    rcases(s.hblk o' x' ho' b hb').2 with h1|⟨q,y,hq,hu,hy⟩
    . exact absurd (h.own o x ho b hb).1 (by omega)
    . refine h.disj o x q y ho hq ?_ b hb hy
      rintro rfl
      rw[hn] at hu;cases hu
  . rw[hoblk o x ho hn] at hb
    rw[hoblk o' x' ho' hn'] at hb'
    exact h.disj o x o' x' ho ho' hne b hb hb'
 case own=>
  intro o x ho b hb
  rcases hold o x ho with ho|⟨hn,ho⟩
  . obtain⟨h1,h2⟩:=s.hblk o x ho b hb
    refine⟨h1,?_⟩
    rcases h2 with h2|⟨q,y,hq,hu,hy⟩
    . exact .inr (Nat.le_trans h.grow.size h2)
    . exact(h.own q y hq b hy).2
  . rw[hoblk o x ho hn] at hb
    obtain⟨h1,h2⟩:=h.own o x ho b hb
    exact⟨Nat.lt_of_lt_of_le h1 s.hsz.size,h2⟩
 case names=>
  intro o x ho q hq
  rcases hold o x ho with ho|⟨hn,ho⟩
  . exact s.hnm o x ho q hq
  . exact hsome q (h.names o x ho q hq)
 case av=>
  intro b hb
  rcases s.hA' b hb with hb'|⟨h1,h2,h3,h4⟩
  . obtain⟨h1,h2,h3⟩:=h.av b hb'
    refine⟨Nat.lt_of_lt_of_le h1 s.hsz.size,fun o x ho hob=>?_,h3⟩
    rcases hold o x ho with ho|⟨hn,ho⟩
    . rcases(s.hblk o x ho b hob).2 with h5|⟨q,y,hq,hu,hy⟩
      . omega
      . exact h2 q y hq hy
    . rw[hoblk o x ho hn] at hob
      exact h2 o x ho hob
  . refine⟨h1,fun o x ho hob=>?_,?_⟩
    . rcases hold o x ho with ho|⟨hn,ho⟩
      . exact h3 o x ho hob
      . rw[hoblk o x ho hn] at hob
        exact h2 o x ho hn hob
    . exact .inr h4
 case av0=>exact fun b hb=>s.hA b (h.av0 b hb)
 case grow=>exact h.grow.trans s.hsz
 case frame=>
  intro b hb hfp
  rw[<-h.frame b hb hfp]
  refine s.hw b (Nat.lt_of_lt_of_le hb h.grow.size) fun o x ho _ hob=>?_
  rcases(h.own o x ho b hob).2 with h1|h1
  . exact hfp h1
  . omega
 case pin=>
  intro o ho
  obtain⟨h1,h2⟩:=h.pin o ho
  exact⟨(s.hφ o (.inr h2.1)).trans h1,h2⟩
theorem kV.step{slots:List SV}{tmps:Array Value}(h:iH cx φ ψ Av objs w)(s:sS cx φ ψ Av objs w φ' ψ' Av' objs' upd w')(hs:kV cx.P φ Av ⟨slots,objs⟩ tmps w)
 (hdeep:∀(t:Nat) x,slots[t]?=some x->∀q∈x.deep,(find upd q).isSome=true->bH objs' q->bH objs q/\oE φ w φ' w' q):kV cx.P φ' Av' ⟨slots,objs'⟩ tmps w':=by
 refine⟨hs.size,fun t x v hx hv=>?_,fun t x hx q hq=>?_⟩
 . exact aBS s.hA (aJH h s) x (fun q hq=>s.hφ q (.inl (hs.names t x hx q hq))) (fun q hq=>aFG h s (hdeep t x hx q hq)) (hs.slots t x v hx hv)
 . have:=hs.names t x hx q hq
   show(find objs' q).isSome=true
   rw[s.hf]
   cases find upd q with
   |some y=>rfl
   |none=>exact this
end step
theorem kV.put{P:Program}{φ:Nat->dJ}{Av:Nat->Prop}{slots:List SV}{objs:List (Nat×Obj)}{tmps:Array Value}{w:World}(h:kV P φ Av ⟨slots,objs⟩ tmps w)
 (d:Nat) (s:SV) (v:Value) (hs:s.rep P φ w Av (bH objs) v) (hn:∀q∈s.named,(find objs q).isSome=true):kV P φ Av ⟨tF slots d s,objs⟩ (tmps.setIfInBounds d v) w:=by
 refine⟨?_,fun t x u hx hu=>?_,fun t x hx q hq=>?_⟩
 . show(tmps.setIfInBounds d v).size=(tF slots d s).length
   rw[aHn,Array.size_setIfInBounds];exact h.size
 . simp only[aHq] at hx
   rw[Array.getElem?_setIfInBounds] at hu
   by_cases hdt:d=t
   . rw[if_pos hdt] at hx hu
     split at hx
     . cases hx
       split at hu
       . cases hu;exact hs
       . cases hu
     . cases hx
   . rw[if_neg hdt] at hx hu
     exact h.slots t x u hx hu
 . simp only[aHq] at hx
   by_cases hdt:d=t
   . rw[if_pos hdt] at hx
     split at hx
     . cases hx;exact hn q hq
     . cases hx
   . rw[if_neg hdt] at hx
     exact h.names t x hx q hq
theorem aBs{cx:Cx}{φ:Nat->dJ}{Av:Nat->Prop}{σ:St}{a:Act}{w:World}(h:kV cx.P φ Av σ a.tmps w)(x:Operand):
 (σ.at x).rep cx.P φ w Av (bH σ.objs) (a.eval x)/\∀q∈(σ.at x).named,(find σ.objs q).isSome=true:=by
 cases x with
 |tmp t=>
  simp only[St.at,Act.eval]
  cases hx:σ.slots[t]? with
  |none=>rw[aFx hx];exact⟨trivial,fun q hq=>by cases hq⟩
  |some s=>
   rw[aGl hx]
   have hlt:t<a.tmps.size:=by rw[h.size];exact jD hx
   rw[Array.getD_eq_getD_getElem?,Array.getElem?_eq_getElem hlt]
   exact⟨h.slots t s _ hx (Array.getElem?_eq_getElem hlt),h.names t s hx⟩
 |const v=>
  simp only[St.at,Act.eval]
  unfold aJw
  split
  . exact⟨⟨_,rfl,rfl⟩,fun q hq=>by cases hq⟩
  . rename_i k n
    rw[Zi]
    split
    . rename_i hk
      simp only[Zb,Za] at hk
      exact⟨⟨_,⟨rfl,hk⟩,rfl⟩,fun q hq=>by cases hq⟩
    . exact⟨trivial,fun q hq=>by cases hq⟩
  . rename_i s
    rw[Zi]
    split
    . rename_i hk
      simp only[Za] at hk
      refine⟨⟨[.string s],⟨?_,?_⟩,rfl⟩,fun q hq=>by cases hq⟩
      . cases s;simp
      . unfold maxLen;simp only[lT] at hk;exact Nat.le_trans hk (by decide)
    . exact⟨trivial,fun q hq=>by cases hq⟩
  . exact⟨⟨_,rfl,rfl⟩,fun q hq=>by cases hq⟩
  . exact⟨trivial,fun q hq=>by cases hq⟩
 |global g=>exact⟨trivial,fun q hq=>by cases hq⟩
 |func f=>exact⟨⟨_,⟨[],rfl,rfl⟩,rfl⟩,fun q hq=>by cases hq⟩
end Go.Aw
