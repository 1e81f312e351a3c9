/-
 A place inside a datum in memory: read there, written there.
-/
import Derived.Test.YtdlkgkkfpfglbaaGreatAwF
namespace Go.Aw
open Go.IntKind (wrap)
open List (length)
theorem aB7{l l':List Value}{off n:Nat}(h:∀j,off<=j->j<off+n->l'[j]?=l[j]?):fX l' off n=fX l off n:=by
 unfold fX
 apply List.ext_getElem?
 intro j
 rcases Nat.lt_or_ge j n with hj|hj
 . rw[List.getElem?_take_of_lt hj,List.getElem?_take_of_lt hj,List.getElem?_drop,List.getElem?_drop]
   exact h _ (by omega) (by omega)
 . rw[List.getElem?_take_eq_none hj,List.getElem?_take_eq_none hj]
theorem aC0{α:Type}{l:List α}{n:Nat}{d x:α}(h:l[n]?=some x):l.getD n d=x:=by
 rw[List.getD_eq_getElem?_getD,h];rfl
def aCD(w w':World)(b off n:Nat)(c':Array Value):Prop:=
 ∀c E fr,w.heap[b]?=some (.cells c E fr)->w'.heap[b]?=some (.cells c' E fr)/\c'.size=c.size/\∀j,j<off\/off+n<=j->c'.toList[j]?=c.toList[j]?
theorem aNB{w:World}{U:Ty}{b' off':Nat}:(p:List qR)->(T:Ty)->(x:T.D)->(b off:Nat)->(c:Array Value)->(E:TypeId)->(fr:Nat×Nat)->(F:Nat->Prop)->
 w.heap[b]?=some (.cells c E fr)->off+T.sz<=c.toList.length->¬F b->qW w T x (fX c.toList off T.sz) F->rX w p T b off=some (U,b',off')->
 ∃y F' c1 E1 fr1,T.get p x=⟨U,y⟩/\w.heap[b']?=some (.cells c1 E1 fr1)/\off'+U.sz<=c1.toList.length/\qW w U y (fX c1.toList off' U.sz) F'/\(∀q,F' q->F q)/\¬F' b'/\
  (b'=b/\off<=off'/\off'+U.sz<=off+T.sz\/F b'/\xV fr1 off' U.sz)/\
  ∀(w':World) (y':U.D) (G:Nat->Prop) (c2:Array Value),aCD w w' b' off' U.sz c2->qW w' U y' (fX c2.toList off' U.sz) G->
   (∀q,q=b\/F q->q≠b'->¬F' q->w'.heap[q]?=w.heap[q]?)->(∀q,G q->q=b\/F q->F' q)->
   ∃c3,aCD w w' b off T.sz c3/\qW w' T (T.set p x ⟨U,y'⟩) (fX c3.toList off T.sz) (fun q=>(F q/\¬F' q)\/G q)
 |[],T,x,b,off,c,E,fr,F,hb,hl,hF,h,hr=>by
  simp only[rX,Zc,Prod.mk.injEq] at hr
  obtain⟨rfl,rfl,rfl⟩:=hr
  refine⟨x,F,c,E,fr,aDA _ _,hb,hl,h,fun _ h=>h,hF,.inl ⟨rfl,Nat.le_refl _,Nat.le_refl _⟩,?_⟩
  intro w' y' G c2 ht hy _ hG
  refine⟨c2,ht,?_⟩
  rw[aMm]
  refine aDB (fun q=>⟨.inr,?_⟩) T hy
  rintro(⟨h1,h2⟩|h1)
  . exact absurd h1 h2
  . exact h1
 |.f k::p,T,x,b,off,c,E,fr,F,hb,hl,hF,h,hr=>by
  simp only[rX] at hr
  cases hn:T.nth k with
  |none=>rw[hn] at hr;cases hr
  |some V=>
   rw[hn] at hr
   have hle:=aCJ T hn
   obtain⟨y1,F1,h1,h2,h3,h4⟩:=aIQ hn h hl
   obtain⟨y,F',c1,E1,fr1,h5,h6,h7,h8,h9,h10,h11,h12⟩:=aNB p V y1 b (off+T.offn k) c E fr F1 hb (by omega) (fun hq=>hF (h3 _ hq)) h2 hr
   refine⟨y,F',c1,E1,fr1,(aOj h1 hn p).trans h5,h6,h7,h8,fun q hq=>h3 q (h9 q hq),h10,?_,?_⟩
   . rcases h11 with⟨e1,e2,e3⟩|⟨e1,e2⟩
     . exact .inl ⟨e1,by omega,by omega⟩
     . exact .inr ⟨h3 _ e1,e2⟩
   . intro w' y' G c2 ht hy hw hG
     obtain⟨c3,h13,h14⟩:=h12 w' y' G c2 ht hy (fun q hq=>hw q (hq.imp id (h3 q))) (fun q hq hq'=>hG q hq (hq'.imp id (h3 q)))
     obtain⟨e1,e2,e3⟩:=h13 c E fr hb
     refine⟨c3,fun c' E' fr' hb'=>?_,?_⟩
     . rw[hb] at hb';cases hb'
       exact⟨e1,e2,fun j hj=>e3 j (by omega)⟩
     . have hbF:∀q,F q->¬F1 q->w'.heap[q]?=w.heap[q]?:=by
        intro q hq hq1
        refine hw q (.inr hq) ?_ (fun hq'=>hq1 (h9 q hq'))
        rintro rfl
        rcases h11 with⟨e4,_⟩|⟨e4,_⟩
        . exact hF (e4▸hq)
        . exact hq1 e4
       have:=h4 w' c3.toList _ _ p ⟨U,y'⟩ rfl h14 (fun j hj1 hj2 hj3=>e3 j hj3) hbF (by
        rintro q (⟨hq,_⟩|hq) hq'
        . exact hq
        . exact h9 q (hG q hq (.inr hq')))
       refine aDB (fun q=>?_) T this
       constructor
       . rintro(⟨h15,h16⟩|⟨h15,h16⟩|h15)
         . exact .inl ⟨h15,fun hq'=>h16 (h9 q hq')⟩
         . exact .inl ⟨h3 q h15,h16⟩
         . exact .inr h15
       . rintro(⟨h15,h16⟩|h15)
         . by_cases hq1:F1 q
           . exact .inr (.inl ⟨hq1,h16⟩)
           . exact .inl ⟨h15,hq1⟩
         . exact .inr (.inr h15)
 |.i n::p,T,x,b,off,c,E,fr,F,hb,hl,hF,h,hr=>by
  cases T with
  |sl t e=>
   simp only[rX] at hr
   rw[pV hb] at hr
   simp only[Option.bind_some] at hr
   have hlt:off<c.toList.length:=by simp only[Ty.sz] at hl;omega
   have hs:fX c.toList off (Ty.sl t e).sz=[c.toList[off]]:=by
    unfold fX;simp only[Ty.sz]
    rw[Zn hlt];rfl
   rw[hs] at h
   rw[Zm hlt] at hr
   rcases h with⟨h1,_⟩|⟨b1,off1,cap,d,E1,fr1,Fs,h1,h2,h3,h4,h5,h6,h7,h8,h9,h10⟩
   . simp only[List.cons.injEq,and_true] at h1
     rw[h1] at hr;cases hr
   . simp only[List.cons.injEq,and_true] at h1
     rw[h1] at hr
     simp only[] at hr
     split at hr
     . rename_i hnl
       have hxn:(x:List e.D)[n]?=some ((x:List e.D)[n]):=Zm hnl
       have hx:=h10 n _ hxn
       have hmul:=dT (k:=e.sz) (Nat.lt_of_lt_of_le hnl h3)
       have hmul':=dT (k:=e.sz) hnl
       obtain⟨y,F',c1,E2,fr2,g1,g2,g3,g4,g5,g6,g7,g8⟩:=aNB p e _ b1 (off1+n*e.sz) d E1 fr1 (Fs n) h2 (by rw[Array.length_toList (xs:=d)];omega) (h8 n hnl) hx hr
       have hb1:b1≠b:=fun e'=>hF (e'▸(h7 b1).2 (.inl rfl))
       refine⟨y,F',c1,E2,fr2,?_,g2,g3,g4,fun q hq=>(h7 q).2 (.inr ⟨n,hnl,g5 q hq⟩),g6,?_,?_⟩
       . simp only[Ty.get,aC0 hxn];exact g1
       . rcases g7 with⟨e1,e2,e3⟩|⟨e1,e2⟩
         . subst e1
           rw[h2] at g2;cases g2
           exact .inr ⟨(h7 b').2 (.inl rfl),tC h6 (by omega) (by omega)⟩
         . exact .inr ⟨(h7 b').2 (.inr ⟨n,hnl,e1⟩),e2⟩
       . intro w' y' G c2 ht hy hw hG
         have hFn:∀q,q=b1\/Fs n q->q=b\/F q:=fun q hq=>.inr ((h7 q).2 (hq.imp id fun hq=>⟨n,hnl,hq⟩))
         obtain⟨c3,g9,g10⟩:=g8 w' y' G c2 ht hy (fun q hq=>hw q (hFn q hq)) (fun q hq hq'=>hG q hq (hFn q hq'))
         obtain⟨k1,k2,k3⟩:=g9 d E1 fr1 h2
         have hbb':b≠b':=by
          rintro rfl
          rcases g7 with⟨e1,_⟩|⟨e1,_⟩
          . exact hb1 e1.symm
          . exact hF ((h7 b).2 (.inr ⟨n,hnl,e1⟩))
         have hF'b:¬F' b:=fun hq=>hF ((h7 b).2 (.inr ⟨n,hnl,g5 b hq⟩))
         have hbsame:=hw b (.inl rfl) hbb' hF'b
         refine⟨c,fun c' E' fr' hb'=>?_,?_⟩
         . rw[hb] at hb';cases hb'
           exact⟨hbsame.trans hb,rfl,fun _ _=>rfl⟩
         . rw[hs,h1]
           have hlen:length (α:=e.D) ((Ty.sl t e).set (.i n::p) x ⟨U,y'⟩)=length (α:=e.D) x:=by simp only[aGh,List.length_set]
           refine .inr ⟨b1,off1,cap,c3,E1,fr1,fun i q=>if i=n then(Fs n q/\¬F' q)\/G q else Fs i q,by rw[hlen],k1,by rw[hlen];exact h3,h4,
            by rw[k2];exact h5,h6,?_,?_,?_,?_⟩
           . intro q
             rw[hlen]
             constructor
             . rintro(⟨h11,h12⟩|h11)
               . rcases(h7 q).1 h11 with h13|⟨i,hi,h13⟩
                 . exact .inl h13
                 . refine .inr ⟨i,hi,?_⟩
                   by_cases hin:i=n
                   . subst hin;simp only[if_true];exact .inl ⟨h13,h12⟩
                   . simp only[if_neg hin];exact h13
               . exact .inr ⟨n,hnl,by simp only[if_true];exact .inr h11⟩
             . rintro(h11|⟨i,hi,h11⟩)
               . exact .inl ⟨(h7 q).2 (.inl h11),fun hq=>h8 n hnl (h11▸g5 q hq)⟩
               . by_cases hin:i=n
                 . subst hin;simp only[if_true] at h11
                   exact h11.imp (fun h12=>⟨(h7 q).2 (.inr ⟨i,hi,h12.1⟩),h12.2⟩) id
                 . simp only[if_neg hin] at h11
                   exact .inl ⟨(h7 q).2 (.inr ⟨i,hi,h11⟩),fun hq=>h9 i n q hi hnl hin h11 (g5 q hq)⟩
           . intro i hi
             rw[hlen] at hi
             by_cases hin:i=n
             . subst hin;simp only[if_true]
               rintro(⟨h11,_⟩|h11)
               . exact h8 i hi h11
               . exact h8 i hi (g5 b1 (hG b1 h11 (.inr ((h7 b1).2 (.inl rfl)))))
             . simp only[if_neg hin];exact h8 i hi
           . intro i j q hi hj hij hiq hjq
             rw[hlen] at hi hj
             have hGF:∀k,k<length (α:=e.D) x->Fs k q->G q->Fs n q:=fun k hk h11 h12=>g5 q (hG q h12 (.inr ((h7 q).2 (.inr ⟨k,hk,h11⟩))))
             by_cases hin:i=n
             . subst hin
               have hjn:j≠i:=Ne.symm hij
               simp only[if_true] at hiq
               simp only[if_neg hjn] at hjq
               rcases hiq with⟨h11,_⟩|h11
               . exact h9 i j q hi hj hij h11 hjq
               . exact h9 i j q hi hj hij (hGF j hj hjq h11) hjq
             . simp only[if_neg hin] at hiq
               by_cases hjn:j=n
               . subst hjn
                 simp only[if_true] at hjq
                 rcases hjq with⟨h11,_⟩|h11
                 . exact h9 i j q hi hj hij hiq h11
                 . exact h9 i j q hi hj hij hiq (hGF i hi hiq h11)
               . simp only[if_neg hjn] at hjq
                 exact h9 i j q hi hj hij hiq hjq
           . intro i z hz
             simp only[aGh] at hz
             by_cases hin:i=n
             . subst hin
               simp only[if_true]
               rw[List.getElem?_set_self hnl] at hz
               simp only[Zc] at hz
               subst hz
               rw[aC0 hxn]
               exact g10
             . simp only[if_neg hin]
               rw[List.getElem?_set_ne (Ne.symm hin)] at hz
               have hi:=jD hz
               have hz':=h10 i z hz
               have hsg:fX c3.toList (off1+i*e.sz) e.sz=fX d.toList (off1+i*e.sz) e.sz:=by
                refine aB7 fun j hj1 hj2=>k3 j ?_
                rcases Nat.lt_or_gt_of_ne hin with hlt'|hgt
                . have:=dT (k:=e.sz) hlt';omega
                . have:=dT (k:=e.sz) hgt;omega
               rw[hsg]
               refine sO e (fun q hq=>hw q (.inr ((h7 q).2 (.inr ⟨i,hi,hq⟩))) ?_ (fun hq'=>h9 i n q hi hnl hin hq (g5 q hq'))) hz'
               rintro rfl
               rcases g7 with⟨e1,_⟩|⟨e1,_⟩
               . exact h8 i hi (e1▸hq)
               . exact h9 i n q hi hnl hin hq e1
     . cases hr
  |int k=>simp[rX] at hr
  |bool=>simp[rX] at hr
  |str=>simp[rX] at hr
  |op=>simp[rX] at hr
  |unit=>simp[rX] at hr
  |pair a b=>simp[rX] at hr
end Go.Aw
