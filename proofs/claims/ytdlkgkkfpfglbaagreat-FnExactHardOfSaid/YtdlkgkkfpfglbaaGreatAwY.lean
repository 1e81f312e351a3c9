/-
 One operation.
-/
import Derived.Test.YtdlkgkkfpfglbaaGreatAwX
namespace Go.Aw
open Go.IntKind (wrap)
open List (length)
section
variable {cx:Cx} {w:World} {σ:St} {E:eI} {e:uM} {a:Act}
def Wp(cx:Cx)(σ:St)(o:Oper)(a:Act)(w:World)(e:uM):Prop:=
 ∀(next:Act->World->Prop) (Q:Exit->Act->World->Prop),(∀a' w',vG cx (σ.apply o.dst e) a' w'->next a' w')->o.wp cx.P a w next Q
theorem rO{o:Oper}{r:Sem Value}(h:wK cx σ a.tmps r w e)(hd:a.defers=[])(hx:execOp a.eval o=(do pure (.value (<-r)))):Wp cx σ o a w e:=by
 intro next Q hn
 obtain⟨v,w',h1,h2⟩:=h.fin hd o.dst
 unfold Oper.wp
 rw[hx]
 simp only[Sem.run_bind,h1,Result.andThen_ok,Sem.run_pure,Oper.upon_value]
 exact hn _ _ h2
theorem aMV{o:Oper}{r:Sem Unit}(h:wK cx σ a.tmps (do r;pure undef) w e)(hd:a.defers=[])(hx:execOp a.eval o=(do r;pure .skip)):Wp cx σ o a w e:=by
 intro next Q hn
 obtain⟨v,w',h1,h2⟩:=h.fin hd o.dst
 unfold Oper.wp
 rw[hx]
 simp only[Sem.run_bind,Sem.run_pure] at h1
 cases hr:r.run cx.P w with
 |halt hh w1=>rw[hr] at h1;cases h1
 |ok u w1=>
  rw[hr] at h1
  simp only[Result.andThen_ok,Result.ok.injEq] at h1
  obtain⟨rfl,rfl⟩:=h1
  simp only[Sem.run_bind,hr,Result.andThen_ok,Sem.run_pure,Oper.upon_skip]
  exact hn _ _ h2
theorem aAy{o:Oper}{f:FuncId}{args:Array Value}(h:Calls cx.P f args w fun d w'=>∃v,d=.returned v/\aGd cx σ a.tmps e v w')(hd:a.defers=[])(hx:(execOp a.eval o).run cx.P w=.ok (.enter f args) w):Wp cx σ o a w e:=by
 intro next Q hn
 unfold Oper.wp
 rw[hx,Oper.upon_enter]
 refine Calls.mono h fun d w' hdv=>?_
 obtain⟨v,rfl,hv⟩:=hdv
 exact hn _ _ (hv.fin hd o.dst)
theorem aAQ{φ:Nat->dJ}{Av:Nat->Prop}(hS:kV cx.P φ Av σ a.tmps w):(l:List Operand)->{cs:List CT}->aGL (l.map σ.at)=some cs->oP cx φ w Av σ.objs cs (l.map a.eval)/\∀c∈cs,c.isDef=true
 |[],cs,h=>by
  simp only[List.map_nil,aGL,Zc] at h
  subst h
  exact⟨rfl,(fun c hc=>by cases hc)⟩
 |x::l,cs,h=>by
  simp only[List.map_cons] at h
  have hx:=aBs hS x
  generalize σ.at x=s at h hx
  cases s with
  |tup c=>cases h
  |one c=>
   simp only[aGL,Zi] at h
   split at h
   . rename_i hd
     split at h
     . rename_i l' hl
       simp only[Zc] at h
       subst h
       obtain⟨h1,h2⟩:=aAQ hS l hl
       refine⟨⟨a.eval x,_,rfl,hx.1,hx.2,h1⟩,fun c' hc'=>?_⟩
       rcases List.mem_cons.1 hc' with rfl|hc'
       . exact hd
       . exact h2 c' hc'
     . cases h
   . cases h
theorem aG7{φ:Nat->dJ}{Av:Nat->Prop}:(cs:List CT)->{vs:List Value}->oP cx φ w Av σ.objs cs vs->(∀c∈cs,c.isDef=true)->(aA9 cs).caps cx.P φ w Av (bH σ.objs) vs/\∀q∈(aA9 cs).named,keys σ.objs q
 |[],vs,h,_=>by
  have h':vs=[]:=h
  exact⟨h',(fun q hq=>by cases hq)⟩
 |c::cs,vs,h,hd=>by
  obtain⟨v,r,rfl,h1,h2,h3⟩:=h
  obtain⟨d1,d2⟩:=yE (hd c (by simp))
  obtain⟨g1,g2⟩:=aG7 cs h3 (fun c' hc'=>hd c' (by simp[hc']))
  refine⟨⟨v,r,rfl,hN h1 d1 d2,g1⟩,fun q hq=>?_⟩
  simp only[aA9,CT.named,Zp] at hq
  exact hq.elim (h2 q) (g2 q)
theorem aIs{φ:Nat->dJ}{Av:Nat->Prop}:(c:CT)->{vs:List Value}->c.caps cx.P φ w Av (bH σ.objs) vs->(∀q∈c.named,keys σ.objs q)->oP cx φ w Av σ.objs (vX c) vs
 |.pair c d,vs,h,hk=>by
  obtain⟨v,r,rfl,⟨cs,h1,h2⟩,h3⟩:=h
  refine⟨v,r,rfl,?_,fun q hq=>hk q (by simp only[CT.named,Zp];exact .inl hq),aIs d h3 fun q hq=>hk q (by simp only[CT.named,Zp];exact .inr hq)⟩
  cases c with
  |undef=>trivial
  |skip=>exact h1.elim
  |_=>exact⟨cs,h1,h2⟩
 |.undef,vs,h,hk=>h
 |.skip,vs,h,hk=>h
 |.nil,vs,h,hk=>h
 |.unit,vs,h,hk=>h
 |.dat _ _,vs,h,hk=>h
 |.arr _,vs,h,hk=>h
 |.sub _ _ _,vs,h,hk=>h
 |.bor _ _,vs,h,hk=>h
 |.bptr _ _ _,vs,h,hk=>h
 |.eptr _ _ _,vs,h,hk=>h
 |.dptr _ _,vs,h,hk=>h
 |.clo _ _,vs,h,hk=>h
 |.fn _ _ _ _,vs,h,hk=>h
theorem oP.app{φ:Nat->dJ}{Av:Nat->Prop}{ds:List CT}{us:List Value}:(cs:List CT)->{vs:List Value}->oP cx φ w Av σ.objs cs vs->oP cx φ w Av σ.objs ds us->oP cx φ w Av σ.objs (cs++ds) (vs++us)
 |[],vs,h,h'=>by
  have:vs=[]:=h
  subst this;exact h'
 |c::cs,vs,h,h'=>by
  obtain⟨v,r,rfl,h1,h2,h3⟩:=h
  exact⟨v,r++us,rfl,h1,h2,oP.app cs h3 h'⟩
theorem aI1{φ:Nat->dJ}{Av al:Nat->Prop}:(c:CT)->{k:Nat}->{d:CT}->{vs:List Value}->c.comp k=some d->c.vals cx.P φ w Av al vs->∃v,vs[k]?=some v/\d.val cx.P φ w Av al v/\∀q∈d.named,q∈c.named
 |.pair a b,k,d,vs,h,hv=>by
  obtain⟨v,r,rfl,h1,h2⟩:=hv
  cases k with
  |zero=>
   simp only[CT.comp,Zc] at h;subst h
   exact⟨v,rfl,h1,fun q hq=>by simp only[CT.named,Zp];exact .inl hq⟩
  |succ k=>
   simp only[CT.comp] at h
   obtain⟨u,g1,g2,g3⟩:=aI1 b h h2
   exact⟨u,by simpa using g1,g2,fun q hq=>by simp only[CT.named,Zp];exact .inr (g3 q hq)⟩
 |.unit,k,d,vs,h,hv=>by cases h
 |.undef,_,_,_,h,_=>by cases h
 |.skip,_,_,_,h,_=>by cases h
 |.nil,_,_,_,h,_=>by cases h
 |.dat _ _,_,_,_,h,_=>by cases h
 |.arr _,_,_,_,h,_=>by cases h
 |.sub _ _ _,_,_,_,h,_=>by cases h
 |.bor _ _,_,_,_,h,_=>by cases h
 |.bptr _ _ _,_,_,_,h,_=>by cases h
 |.eptr _ _ _,_,_,_,h,_=>by cases h
 |.dptr _ _,_,_,_,h,_=>by cases h
 |.clo _ _,_,_,_,h,_=>by cases h
 |.fn _ _ _ _,_,_,_,h,_=>by cases h
theorem aIU{φ:Nat->dJ}{Av:Nat->Prop}(hS:kV cx.P φ Av σ a.tmps w)(x:Option Operand){y:Option Int}(h:bnd σ.at x=some y):aGk y (x.map a.eval):=by
 cases x with
 |none=>simp only[bnd,Zc] at h;subst h;trivial
 |some x=>
  have hx:=(aBs hS x).1
  simp only[bnd] at h
  split at h
  . rename_i k n hs
    simp only[Zc] at h;subst h
    rw[hs] at hx
    obtain⟨hv,_⟩:=wJ hx
    simp only[Option.map_some,hv]
    rfl
  . cases h
theorem cL.flat{T:Ty}{xs:List T.D}{cs:List Value}{Fs:Nat->Nat->Prop}(hf:T.flat=true)(h:cL w T xs cs Fs):∀u∈cs,aJm u=false:=by
 intro u hu
 obtain⟨j,hj,rfl⟩:=List.getElem_of_mem hu
 have hlen:=h.len
 have hz:0<T.sz:=by
  rcases Nat.eq_zero_or_pos T.sz with h0|h0
  . rw[h0,Nat.mul_zero] at hlen;omega
  . exact h0
 have hi:j/T.sz<xs.length:=by rw[Nat.div_lt_iff_lt_mul hz];omega
 have hx:=h.el (j/T.sz) _ (Zm hi)
 have hm:=Nat.mod_lt j hz
 have hdm:=Nat.div_add_mod j T.sz
 rw[Nat.mul_comm] at hdm
 have:(fX cs (j/T.sz*T.sz) T.sz)[j%T.sz]?=some cs[j]:=by
  rw[uE hm,hdm,Zm hj]
 exact zY T hf hx _ (List.mem_of_getElem? this)
theorem aJk{α:Type}{lo hi:Nat}{z:α}{xs:List α}(h1:lo<=hi)(h2:hi<=xs.length):(xR lo hi z xs).length=xs.length:=by
 unfold xR;simp only[Zf,Zr,List.length_replicate,Zs];omega
theorem aIZ{α:Type}{lo hi i:Nat}{z:α}{xs:List α}(h1:lo<=hi)(h2:hi<=xs.length)(h:i<lo\/hi<=i):(xR lo hi z xs)[i]?=xs[i]?:=by
 unfold xR
 have hl:(xs.take lo).length=lo:=by rw[Zr];omega
 rcases h with h|h
 . rw[Zk,List.getElem?_append_left (by omega),List.getElem?_take_of_lt h]
 . rw[List.getElem?_append_right (by rw[Zf,List.length_replicate];omega),Zf,List.length_replicate,hl,List.getElem?_drop]
   congr 1;omega
theorem aKp{α:Type}{lo hi i:Nat}{z:α}{xs:List α}(h2:hi<=xs.length)(h3:lo<=i)(h4:i<hi):(xR lo hi z xs)[i]?=some z:=by
 unfold xR
 have hl:(xs.take lo).length=lo:=by rw[Zr];omega
 rw[Zk,List.getElem?_append_right (by omega),List.getElem?_append_left (by rw[List.length_replicate];omega),List.getElem?_replicate,if_pos (by omega)]
theorem aHO{α:Type}{lo:Nat}{z:α}{xs:List α}:xR lo lo z xs=xs:=by
 unfold xR;simp
theorem aJe{P:Program}{t ty t1 t2:TypeId}{T:Ty}{xs:List T.D}{hdr v:Value}{F:Nat->Prop}{lo hi:Nat}(hT:pQ P (.sl t1 T) (.t t)=true)(h:qW w (.sl t2 T) xs [hdr] F)(hs:zN hdr T.sz lo hi v)(hf:T.flat=true)
 (ht:T.told=true):∃w',(Builtin.clear_ #[t] ty #[v]).run P w=.ok (.tuple #[]) w'/\qW w' (.sl t2 T) (xR (α:=T.D) lo hi T.zero xs) [hdr] F/\aDt w w'/\(∀q,¬F q->w'.heap[q]?=w.heap[q]?)/\aLW w w' (fun _=>True):=by
 cases fR hT;rename_i hu hte
 obtain⟨i,z,hi',hsz,hb,hzz,hzc⟩:=yB hte ht
 have hzz':(zeroValue t1).run P w=.ok z w:=by simp[zeroValue,typeInfo,hi',hzz]
 by_cases hlh:hi-lo=0
 . have hv:∃a c,v=.slice a 0 c:=by
    unfold zN at hs
    split at hs
    . obtain⟨_,_,c,_,_,h1|h1⟩:=hs
      . exact⟨_,_,by rw[h1,hlh]⟩
      . exact⟨_,_,by rw[h1.2,hlh]⟩
    . exact⟨_,_,hs.2.2⟩
    . exact hs.elim
   obtain⟨a,c,rfl⟩:=hv
   have hle:lo=hi:=by
    unfold zN at hs
    split at hs
    . omega
    . omega
    . exact hs.elim
   subst hle
   refine⟨w,?_,by rw[aHO];exact h,⟨rfl,rfl,rfl,rfl⟩,fun _ _=>rfl,fun _ _ _ _ h _=>h⟩
   cases a<;>simp[Builtin.clear_,run_underlying hu]
 . rcases h with⟨h1,h2,h3⟩|⟨b,off,cap,c,E,fr,Fs,h1,h2,h3,h4,h5,h6,h7,h8,h9,h10⟩
   . simp only[List.cons.injEq,and_true] at h1
     subst h1
     simp only[zN] at hs
     omega
   . simp only[List.cons.injEq,and_true] at h1
     subst h1
     simp only[zN] at hs
     obtain⟨g1,g2,cap',g3,g4,g5⟩:=hs
     have hv:v=.slice (some ⟨b,off+lo*T.sz,none⟩) (hi-lo) cap':=g5.resolve_right (by omega)
     subst hv
     obtain⟨k,hk⟩:∃k,hi-lo=k+1:=⟨hi-lo-1,by omega⟩
     have hcl:c.toList.length=c.size:=Array.length_toList
     have hmul:hi*T.sz<=cap*T.sz:=Nat.mul_le_mul_right _ (by omega)
     have hmul2:lo*T.sz+(hi-lo)*T.sz=hi*T.sz:=by rw[<-Nat.add_mul];congr 1;omega
     obtain⟨zs,hzs⟩:∃zs,zs=(madeCells T.zcells.toArray ((hi-lo)*T.sz)).toList:=⟨_,rfl⟩
     have hzl:zs.length=(hi-lo)*T.sz:=by rw[hzs,Array.length_toList,size_madeCells]
     have hrz:cL w T (List.replicate (hi-lo) T.zero) (fX zs 0 ((hi-lo)*T.sz)) (fun _ _=>False):=by rw[hzs];exact aEa ht _ _ (Nat.le_refl _)
     have hsegz:fX zs 0 ((hi-lo)*T.sz)=zs:=by unfold fX;rw[List.drop_zero,List.take_of_length_le (by omega)]
     rw[hsegz] at hrz
     obtain⟨w',r1,r2,r3,r4⟩:=vL (P:=P) (off:=off+lo*T.sz) zs 0 c w h2 (by omega) (tC h6 (by omega) (by omega)) hrz.one
     rw[Nat.add_zero] at r2
     have hsp:off+lo*T.sz+zs.length<=c.toList.length:=by omega
     have hbF:F b:=(h7 b).2 (.inl rfl)
     have hFb:∀q,F q↔q=b:=fun q=>by
      rw[h7]
      constructor
      . rintro(h|⟨i,hi,h⟩)
        . exact h
        . exact absurd h (sD T hf (h10 i _ (Zm hi)) q)
      . exact .inl
     have hzlen:=aJk (z:=T.zero) g1 g2
     refine⟨w',?_,?_,r4,fun q hq=>r3 q (by rintro rfl;exact hq hbF),?_⟩
     . have hmade:(Builtin.zeroCells z.cells (hi-lo)).toList=zs:=by
        rw[hzs,hzc];simp[Builtin.zeroCells,madeCells,pL]
       rw[hk] at hmade ⊢
       simp[Builtin.clear_,run_underlying hu,hzz',hmade,r1]
     . refine .inr ⟨b,off,cap,_,E,fr,fun _ _=>False,by rw[hzlen],r2,by rw[hzlen];exact h3,h4,by simp only[List.size_toArray];rw[wN hsp,hcl];exact h5,h6,fun q=>?_,fun _ _ h=>h,fun _ _ _ _ _ _ h=>h.elim,fun j x hx=>?_⟩
       . rw[hFb]
         exact⟨.inl,fun h=>h.elim id fun⟨_,_,h⟩=>h.elim⟩
       . have hj:=jD hx
         rw[hzlen] at hj
         by_cases hin:lo<=j/\j<hi
         . rw[aKp g2 hin.1 hin.2] at hx
           have hz0:=hrz.el (j-lo) T.zero (by rw[List.getElem?_replicate,if_pos (by omega)])
           have he:fX (eS c.toList (off+lo*T.sz) zs) (off+j*T.sz) T.sz=fX zs ((j-lo)*T.sz) T.sz:=by
            have h11:off+j*T.sz=off+lo*T.sz+(j-lo)*T.sz:=by rw[Nat.add_assoc,<-Nat.add_mul];congr 2;omega
            have h12:=dT (k:=T.sz) (show j-lo<hi-lo by omega)
            rw[h11,<-vJ (n:=zs.length) (by omega),zV hsp]
           cases hx
           show qW w' T _ (fX (eS c.toList (off+lo*T.sz) zs) _ _) _
           rw[he]
           exact mP T hf (jO (Av:=fun _=>True) T (fun _ _=>trivial) hz0)
         . rw[aIZ g1 g2 (by omega)] at hx
           have he:fX (eS c.toList (off+lo*T.sz) zs) (off+j*T.sz) T.sz=fX c.toList (off+j*T.sz) T.sz:=by
            refine aB7 fun a ha1 ha2=>pA hsp ?_
            rcases Nat.lt_or_ge j lo with h11|h11
            . have:=dT (k:=T.sz) h11
              exact .inl (by omega)
            . have:hi*T.sz<=j*T.sz:=Nat.mul_le_mul_right _ (by omega)
              exact .inr (by omega)
           show qW w' T _ (fX (eS c.toList (off+lo*T.sz) zs) _ _) _
           rw[he]
           exact mP T hf (jO (Av:=fun _=>True) T (fun _ _=>trivial) (h10 j x hx))
     . intro b1 off1 u _ hu hsu
       by_cases hb1:b1=b
       . subst hb1
         rw[pV h2] at hu
         rw[pV r2]
         simp only[Option.bind_some] at hu ⊢
         by_cases hin:off1<off+lo*T.sz\/off+lo*T.sz+zs.length<=off1
         . rw[pA hsp hin];exact hu
         . have hold:cL w T xs (fX c.toList off (xs.length*T.sz)) Fs:=⟨oB (by have:=Nat.mul_le_mul_right T.sz h3;omega),fun j x hx=>by
            have hmul:=dT (k:=T.sz) (jD hx)
            rw[vJ hmul];exact h10 j x hx,h9⟩
           have hm3:hi*T.sz<=xs.length*T.sz:=Nat.mul_le_mul_right _ g2
           have:u∈fX c.toList off (xs.length*T.sz):=by
            have h11:(fX c.toList off (xs.length*T.sz))[off1-off]?=some u:=by
             rw[uE (by omega)]
             rw[<-hu];congr 1;omega
            exact List.mem_of_getElem? h11
           rw[hold.flat hf u this] at hsu;cases hsu
       . rw[vV (r3 b1 hb1)];exact hu
theorem aKb{φ:Nat->dJ}{ψ:Nat->Nat->Prop}{Av:Nat->Prop}{tmps:Array Value}{t ty:TypeId}{s:SV}{x:Value}(hE:aS cx.P E)(hO:iH cx φ ψ Av σ.objs w)(hS:kV cx.P φ Av σ tmps w)(hx:s.rep cx.P φ w Av (bH σ.objs) x)
 (he:(aH0 (E.ty t) s).ev (find σ.objs)=some e):wK cx σ tmps (Builtin.clear_ #[t] ty #[x]) w e:=by
 unfold aH0 at he
 split at he
 . rename_i t1 T o lo hi hT
   simp only[M.ev] at he
   split at he
   . rename_i t' T' xs ho
     rw[Zi] at he
     split at he
     . rename_i hc
       simp only[Zb,Za,Ty.sl.injEq] at hc
       obtain⟨⟨rfl,rfl⟩,hf,ht⟩:=hc
       simp only[M.ev,Zc] at he
       subst he
       obtain⟨hee,hrd⟩:=hO.reps o _ ho
       obtain⟨cs,hcs,rfl⟩:=hx
       obtain⟨v,rfl,hsub⟩:=hcs
       rw[hee] at hsub
       obtain⟨w',r1,r2,r3,r4,r5⟩:=aJe (ty:=ty) (hE.ty _ _ hT) hrd hsub hf ht
       have r3s:=r3.size
       have hst:oE φ w φ w' o:=aCl (D:=fun _=>True) r5 hee hrd (fun _ _=>trivial)
       refine One.does (l:=[]) (n:=o) (X:=.arr t' T' _) (φ':=φ) (ψ':=ψ) hO hS
        ⟨by simp,by simp,(fun o ho=>by cases ho),fun _ _=>rfl,fun _ _=>rfl,fun _=>rfl,r3.grew,fun b hb hno=>?_,fun b hb=>?_,(fun q hq=>by cases hq),fun _ _=>.inl ⟨⟨t',T',xs,ho⟩,hst⟩⟩ ⟨hee,r2⟩ r1 rfl rfl
         ⟨[],rfl,rfl⟩ (fun q hq=>by cases hq)
       . exact r4 b fun hq=>hno ⟨o,_,by simp,ho,hq⟩
       . have:=(hO.own o _ ho b hb).1
         exact⟨by omega,.inr ⟨o,_,by simp,ho,hb⟩⟩
     . cases he
   . cases he
 . cases he
def aL5(E:eI)(n:Nat)(c:Call)(σ:Operand->SV):M uM:=
 match c.callee with
  |.builtin .len=>match c.args.toList,c.argTypes.toList with
   |[x],t::_=>aN3 (E.ty t) (σ x)
   |_,_=>.fail
  |.builtin .append=>match c.args.toList,c.argTypes.toList with
   |[x,y],[t,u]=>match E.ty u with
    |some (.int _)=>xD (E.ty t) (E.ty u) (σ x) (σ y) n
    |_=>aDv (E.ty t) (E.ty u) (σ x) (σ y) n
   |_,_=>.fail
  |.builtin .cap=>match c.args.toList,c.argTypes.toList with
   |[x],t::_=>match E.ty t,σ x with
    |some (.sl _ _),.one .nil=>ok (.dat (.int .i64) (0:Int))
    |_,_=>.fail
   |_,_=>.fail
  |.builtin .clear=>match c.args.toList,c.argTypes.toList with
   |[x],[t]=>aH0 (E.ty t) (σ x)
   |_,_=>.fail
  |.builtin .min=>aGb false (c.args.toList.map σ)
  |.builtin .max=>aGb true (c.args.toList.map σ)
  |.value (.func f)=>match aGL (c.args.toList.map σ) with
   |some cs=>match aH5 E f (aJg cs) with
    |some e=>aIq E.fs e cs n
    |none=>match E.fs f with
     |some s=>aDc E.fs s cs n
     |none=>.fail
   |none=>.fail
  |.value (.tmp t)=>match σ (.tmp t),aGL (c.args.toList.map σ) with
   |.one (.clo f caps),some cs=>match E.fw f f with
    |some e=>aIq E.fs e (cs++vX caps) n
    |none=>match E.fs f with
     |some s=>aDc E.fs s (cs++vX caps) n
     |none=>.fail
   |.one (.fn A B pre g),some [c]=>(oD A c).bind fun x=>.chk (pre x) (ok (.dat B (g x)))
   |_,_=>.fail
  |_=>.fail
theorem iL{α:Type}{a:Array α}{l:List α}(h:a.toList=l):a=l.toArray:=by rw[<-h]
theorem aHj(l:List Operand)(f:Operand->SV)(g:Operand->Value)(i:Nat)(s:SV)(v:Value)(h1:(l.map f)[i]?=some s)(h2:(l.map g)[i]?=some v):∃x,f x=s/\g x=v:=by
 rw[List.getElem?_map] at h1 h2
 cases hx:l[i]? with
 |none=>rw[hx] at h1;cases h1
 |some x=>
  rw[hx] at h1 h2
  simp only[Option.map_some,Zc] at h1 h2
  exact⟨x,h1,h2⟩
theorem aMz{o:Oper}{n:Nat}{c:Call}(hE:aS cx.P E)(hI:vG cx σ a w)(hop:o.op=.call c)(he:(aL5 E n c σ.at).ev (find σ.objs)=some e):Wp cx σ o a w e:=by
 obtain⟨hd,φ,ψ,Av,hO,hS⟩:=hI
 have hat:=aBs hS
 have give:∀{r:Sem Value},xI cx φ w Av σ.objs r e->execOp a.eval o=(do pure (.value (<-r)))->Wp cx σ o a w e:=fun h hx=>rO (h.does hO hS) hd hx
 unfold aL5 at he
 split at he
 . rename_i hcal
   split at he
   . rename_i x t ts hx ht
     have hx:=iL hx
     have ht:=iL ht
     refine give (r:=Builtin.len_ (t::ts).toArray o.type #[a.eval x]) (aMh hE hO (hat x).1 he) ?_
     simp only[execOp,hop,resolve,hcal,hx,ht]
     simp[invoke,builtin]
   . cases he
 . rename_i hcal
   split at he
   . rename_i x y t u hx ht
     have hx:=iL hx
     have ht:=iL ht
     have hex:execOp a.eval o=(do pure (.value (<-Builtin.append_ #[t,u] o.type #[a.eval x,a.eval y]))):=by
      simp only[execOp,hop,resolve,hcal,hx,ht]
      simp[invoke,builtin]
     split at he
     . exact rO (aET hE hO hS (hat x).1 (hat y).1 he) hd hex
     . exact rO (aJ6 hE hO hS (hat x).1 (hat y).1 he) hd hex
   . cases he
 . rename_i hcal
   split at he
   . rename_i x t ts hx ht
     have hx:=iL hx
     have ht:=iL ht
     split at he
     . rename_i t1 T hT hnil
       cases fR (hE.ty _ _ hT);rename_i hu hte
       have hv:=(hat x).1
       rw[hnil] at hv
       obtain⟨cs,rfl,hv⟩:=hv
       have he':(⟨.one (.dat (.int .i64) (0:Int)),[],none⟩:uM)=e:=by simpa [ok,M.ev] using he
       subst he'
       have hv0:a.eval x=.slice none 0 0:=hv
       refine give (r:=Builtin.cap_ (t::ts).toArray o.type #[a.eval x]) ⟨⟨.int .i64 0,?_,⟨_,⟨rfl,aEe _⟩,rfl⟩⟩,rfl,rfl,fun q hq=>by cases hq⟩ ?_
       . rw[hv0]
         simp[Builtin.cap_,run_underlying hu,goInt]
       . simp only[execOp,hop,resolve,hcal,hx,ht]
         simp[invoke,builtin]
     . cases he
   . cases he
 . rename_i hcal
   split at he
   . rename_i x t hx ht
     have hx:=iL hx
     have ht:=iL ht
     refine rO (aKb (ty:=o.type) hE hO hS (hat x).1 he) hd ?_
     simp only[execOp,hop,resolve,hcal,hx,ht]
     simp[invoke,builtin]
   . cases he
 . rename_i hcal
   refine give (r:=Builtin.min_ c.argTypes o.type (c.args.toList.map a.eval).toArray) ?_ ?_
   . have:=aJJ (P:=cx.P) (w:=w) (φ:=φ) (Av:=Av) (al:=bH σ.objs) (ks:=keys σ.objs) (ts:=c.argTypes) (ty:=o.type) (mx:=false) (ss:=c.args.toList.map σ.at) (vs:=c.args.toList.map a.eval) (by simp) (fun i s v h1 h2=>by
      obtain⟨x,rfl,rfl⟩:=aHj _ _ _ i s v h1 h2
      exact(hat x).1) he
     simpa using this
   . have hm:c.args.map a.eval=(c.args.toList.map a.eval).toArray:=iL (by simp)
     simp only[execOp,hop,resolve,hcal,hm]
     rfl
 . rename_i hcal
   refine give (r:=Builtin.max_ c.argTypes o.type (c.args.toList.map a.eval).toArray) ?_ ?_
   . have:=aJJ (P:=cx.P) (w:=w) (φ:=φ) (Av:=Av) (al:=bH σ.objs) (ks:=keys σ.objs) (ts:=c.argTypes) (ty:=o.type) (mx:=true) (ss:=c.args.toList.map σ.at) (vs:=c.args.toList.map a.eval) (by simp) (fun i s v h1 h2=>by
      obtain⟨x,rfl,rfl⟩:=aHj _ _ _ i s v h1 h2
      exact(hat x).1) he
     simpa using this
   . have hm:c.args.map a.eval=(c.args.toList.map a.eval).toArray:=iL (by simp)
     simp only[execOp,hop,resolve,hcal,hm]
     rfl
 . rename_i f hcal
   split at he
   . rename_i cs hcs
     obtain⟨h1,_⟩:=aAQ hS c.args.toList hcs
     have hrun:∀{fn:Func},cx.P.funcs[f]?=some fn->fn.body.isSome=true->(fn.name== "runtime.NumGoroutine")=false->(execOp a.eval o).run cx.P w=.ok (.enter f (c.args.toList.map a.eval).toArray) w:=by
      intro fn g1 g2 g3
      have hm:c.args.map a.eval=(c.args.toList.map a.eval).toArray:=iL (by simp)
      have hev:a.eval (.func f)=.func (.func f) #[] #[]:=rfl
      simp only[execOp,hop,resolve,hcal,hev,Deferred.ofValue,Sem.run_bind,Sem.run_pure,Result.andThen_ok,invoke,hm]
      have:#[]++(c.args.toList.map a.eval).toArray++#[]=(c.args.toList.map a.eval).toArray:=by simp
      rw[this]
      exact zJ g1 g2 g3
     split at he
     . rename_i en hw
       obtain⟨g,hg⟩:∃g,E.fw f g=some en:=by
        unfold aH5 at hw
        split at hw
        . exact⟨_,hw⟩
        . cases hw
       obtain⟨_,fn,g1,g2,g3⟩:=hE.fw f g en hg
       exact aAy (aIB hE hO hS hg h1 he) hd (hrun g1 g2 g3)
     . split at he
       . rename_i s hs
         obtain⟨_,fn,g1,g2,g3⟩:=hE.fs f s hs
         exact aAy (aI6 hE hO hS hs h1 he) hd (hrun g1 g2 g3)
       . cases he
   . cases he
 . rename_i t hcal
   split at he
   . rename_i f caps cs hclo hcs
     obtain⟨h1,_⟩:=aAQ hS c.args.toList hcs
     have hv:=hat (.tmp t)
     rw[hclo] at hv
     obtain⟨_,⟨vs,rfl,hcaps⟩,hval⟩:=hv.1
     have h2:=oP.app cs h1 (aIs caps hcaps hv.2)
     have hrun:∀{fn:Func},cx.P.funcs[f]?=some fn->fn.body.isSome=true->(fn.name== "runtime.NumGoroutine")=false->(execOp a.eval o).run cx.P w=.ok (.enter f (c.args.toList.map a.eval++vs).toArray) w:=by
      intro fn g1 g2 g3
      have hm:c.args.map a.eval=(c.args.toList.map a.eval).toArray:=iL (by simp)
      have hev:a.eval (.tmp t)=.func (.func f) #[] vs.toArray:=hval
      simp only[execOp,hop,resolve,hcal,hev,Deferred.ofValue,Sem.run_bind,Sem.run_pure,Result.andThen_ok,invoke,hm]
      have:#[]++(c.args.toList.map a.eval).toArray++vs.toArray=(c.args.toList.map a.eval++vs).toArray:=by simp
      rw[this]
      exact zJ g1 g2 g3
     split at he
     . rename_i en hw
       obtain⟨_,fn,g1,g2,g3⟩:=hE.fw f f en hw
       exact aAy (aIB hE hO hS hw h2 he) hd (hrun g1 g2 g3)
     . split at he
       . rename_i s hs
         obtain⟨_,fn,g1,g2,g3⟩:=hE.fs f s hs
         exact aAy (aI6 hE hO hS hs h2 he) hd (hrun g1 g2 g3)
       . cases he
   . rename_i A B pre g d hfn hcs
     obtain⟨h1,hdf⟩:=aAQ hS c.args.toList hcs
     obtain⟨v,r,hvr,hvd,hkd,hr⟩:=h1
     have hr':r=[]:=hr
     subst hr'
     have hv:=hat (.tmp t)
     rw[hfn] at hv
     obtain⟨_,⟨fv,rfl,f,caps,rfl,hB,hcf,himp⟩,hval⟩:=hv.1
     obtain⟨x,hx,he⟩:=aG he
     obtain⟨hpre,he⟩:=gM he
     have he':(⟨.one (.dat B (g x)),[],none⟩:uM)=e:=by simpa [ok,M.ev] using he
     subst he'
     obtain⟨d1,d2⟩:=uA hx
     obtain⟨cs',hc,rfl⟩:=hN hvd d1 d2
     obtain⟨k1,k2⟩:=sQ hO A d hx hc
     have hcalls:=himp w (fun b=>Av b\/Of φ ψ σ.objs d.ids b) x cs' (fun _ _=>rfl) (fun b hb=>by
      rcases hb with hb|⟨o,y,_,hy,hb⟩
      . exact(hO.av b hb).1
      . exact(hO.own o y hy b hb).1) k1 hpre
     have hlen:∃z,c.args.toList=[z]:=by
      have h3:=congrArg length hvr
      simp only[List.length_map,Zg,Zh] at h3
      match c.args.toList,h3 with
      |[z],_=>exact⟨z,rfl⟩
     obtain⟨z,hz⟩:=hlen
     rw[hz] at hvr
     simp only[List.map_cons,List.map_nil,List.cons.injEq,and_true] at hvr
     refine aAy (f:=f) (args:=#[cS A.isSt cs']++caps) (Calls.mono hcalls fun d' w' hp=>?_) hd ?_
     . obtain⟨rc,rfl,h5,h6,h7⟩:=hp
       have s:sS cx φ ψ Av σ.objs w φ ψ Av (fE σ.objs []) [] w':=
        ⟨fun o=>rfl,fun _ _=>rfl,fun _ _ _=>rfl,fun _ hb=>hb,fun _ hb=>.inl hb,fun b hb _=>h6 b hb,h7,(fun o x hx=>by cases hx),(fun o x hx=>by cases hx),(fun o x o' x' hx=>by cases hx),(fun o x hx=>by cases hx),fun o x hx hn q hq hu=>by cases hu⟩
       refine⟨_,rfl,φ,ψ,Av,fE σ.objs [],fun _=>rfl,hO.step s,(kV.step hO s hS fun t x hx q hq hu=>by cases hu),⟨rc,?_,rfl⟩,(fun q hq=>by cases hq)⟩
       exact lG (fun b hb=>hb.elim) (fun _ _=>rfl) B h5
     . have hev:a.eval (.tmp t)=.func (.func f) #[] caps:=hval
       have hm:c.args.map a.eval=#[cS A.isSt cs']:=by
        rw[iL (a:=c.args.map a.eval) (l:=[cS A.isSt cs']) (by rw[Array.toList_map,hz];simp only[List.map_cons,List.map_nil];rw[hvr,k2])]
       simp only[execOp,hop,resolve,hcal,hev,Deferred.ofValue,Sem.run_bind,Sem.run_pure,Result.andThen_ok,invoke,hm]
       have:#[]++#[cS A.isSt cs']++caps=#[cS A.isSt cs']++caps:=by simp
       rw[this]
       exact hcf _ _
   . cases he
 . cases he
theorem aOv{o:Oper}{n:Nat}(hE:aS cx.P E)(hI:vG cx σ a w)(he:(opM E n o σ.at).ev (find σ.objs)=some e):Wp cx σ o a w e:=by
 obtain⟨hd,φ,ψ,Av,hO,hS⟩:=hI
 have hat:=aBs hS
 have give:∀{r:Sem Value},xI cx φ w Av σ.objs r e->execOp a.eval o=(do pure (.value (<-r)))->Wp cx σ o a w e:=fun h hx=>rO (h.does hO hS) hd hx
 unfold opM at he
 split at he
 . rename_i x hop
   simp only[M.ev,Zc] at he
   subst he
   exact give (r:=pure (a.eval x)) ⟨⟨_,by rw[Sem.run_pure],(hat x).1⟩,rfl,rfl,(hat x).2⟩ (by simp only[execOp,hop];rfl)
 . rename_i x hop
   simp only[M.ev,Zc] at he
   subst he
   exact give (r:=pure (a.eval x)) ⟨⟨_,by rw[Sem.run_pure],(hat x).1⟩,rfl,rfl,(hat x).2⟩ (by simp only[execOp,hop];rfl)
 ·
  rename_i c x y hop
  split at he
  . rename_i b hc
    have hb:=(hat c).1
    rw[hc] at hb
    have hb:=aAV hb
    simp only[M.ev] at he
    have hex:execOp a.eval o=(do pure (.value (<-(pure (if b=true then a.eval x else a.eval y):Sem Value)))):=by
     simp only[execOp,hop,hb,asBool];rfl
    split at he
    . rename_i hbt
      simp only[M.ev,Zc] at he
      subst he
      refine give ⟨⟨_,by rw[Sem.run_pure],?_⟩,rfl,rfl,(hat x).2⟩ hex
      rw[if_pos hbt];exact(hat x).1
    . rename_i hbt
      simp only[M.ev,Zc] at he
      subst he
      refine give ⟨⟨_,by rw[Sem.run_pure],?_⟩,rfl,rfl,(hat y).2⟩ hex
      rw[if_neg hbt];exact(hat y).1
  . cases he
 ·
  rename_i op _ x hop
  have hx:=(hat x).1
  split at he
  . rename_i b hc
    rw[hc] at hx
    have hb:=aAV hx
    refine give (r:=Op.unary .not (a.eval x)) (mB he ?_) (by simp only[execOp,hop])
    rw[hb];rfl
  . rename_i k m hc
    rw[hc] at hx
    obtain⟨hb,hm⟩:=wJ hx
    refine give (r:=Op.unary .neg (a.eval x)) (iB he ?_ (qK _ _)) (by simp only[execOp,hop])
    rw[hb];rfl
  . cases he
 . rename_i op t x y _ hop
   exact give (aN2 (ox:=x) (oy:=y) hE hO (hat x).1 (hat y).1 he) (by simp only[execOp,hop])
 ·
  rename_i s d x hop
  have hex:execOp a.eval o=(do pure (.value (<-convert s d (a.eval x)))):=by simp only[execOp,hop]
  by_cases hb:∃t,E.ty s=some .str/\E.ty d=some (.sl t (.int .u8))
  . obtain⟨t,h1,h2⟩:=hb
    have hx:=(hat x).1
    generalize hsx:σ.at x=sx at he hx
    rw[h1,h2] at he
    cases sx with
    |tup c=>cases he
    |one c=>
     cases c with
     |dat U z=>
      cases U with
      |str=>
       simp only[aJX] at he
       obtain⟨h3,he⟩:=gM he
       obtain⟨_,h4,he⟩:=aG he
       simp only[M.ev,Zc] at he
       subst he
       obtain⟨hv,_⟩:=aAA hx
       refine rO ?_ hd hex
       rw[hv]
       exact aLh hE hO hS h1 h2 (Ze h3) (rZ h4)
      |_=>cases he
     |_=>cases he
  . exact give (aLB hE hO (hat x).1 (fun t h=>hb ⟨t,h⟩) he) hex
 ·
  rename_i f first caps hop
  split at he
  . rename_i l hf hl
    have hfe:first=#[]:=by cases first;simp_all
    subst hfe
    obtain⟨h1,h2⟩:=aAQ hS caps.toList hl
    obtain⟨g1,g2⟩:=aG7 l h1 h2
    refine give (r:=Instr.makeFunc (.func f) (#[].map a.eval) (caps.map a.eval)) (jA he (v:=.func (.func f) #[] (caps.toList.map a.eval).toArray) ?_ ⟨_,⟨_,rfl,g1⟩,rfl⟩ g2) (by simp only[execOp,hop])
    simp only[Instr.makeFunc,Sem.run_pure]
    rw[xK (a:=caps.map a.eval) (l:=caps.toList.map a.eval) (by simp)]
    simp
  . cases he
 ·
  rename_i t hop
  split at he
  . rename_i T hT
    rw[Zi] at he
    split at he
    . rename_i ht
      obtain⟨_,h4,he⟩:=aG he
      simp only[M.ev,Zc] at he
      subst he
      rcases Bool.or_eq_true_iff.1 ht with ht|ht
      . exact rO (aLL hE hO hS hT ht (rZ h4)) hd (by simp only[execOp,hop])
      . have ht:=Ze ht
        subst ht
        exact rO (aJ5 hE hO hS hT (rZ h4)) hd (by simp only[execOp,hop])
    . cases he
  . cases he
 ·
  rename_i t x hop
  split at he
  . rename_i T c hT hc
    have hx:=hat x
    rw[hc] at hx
    rw[Zi] at he
    split at he
    . rename_i ht
      simp only[Zb] at ht
      obtain⟨_,h4,he⟩:=aG he
      simp only[M.ev,Zc] at he
      subst he
      exact rO (aNA (t:=t) hO hS hx.1 hx.2 ht.1 ht.2 (rZ h4)) hd (by simp only[execOp,hop])
    . cases he
  . cases he
 ·
  rename_i t ps hop
  split at he
  . rename_i T hT
    split at he
    . rename_i c hc
      rw[Zi] at he
      split at he
      . rename_i ht
        simp only[Zb] at ht
        exact give (aLj (ρ:=a.eval) hE hT ht.1 ht.2 hat hc he) (by simp only[execOp,hop])
      . cases he
    . cases he
  . cases he
 ·
  rename_i t len ps hop
  split at he
  . rename_i t' T hT
    rw[Zi] at he
    split at he
    . rename_i hc
      simp only[Zb,Nat.beq_eq,Nat.ble_eq] at hc
      obtain⟨⟨⟨c1,c2⟩,c3⟩,c4⟩:=hc
      obtain⟨r,h1,he⟩:=aG he
      rw[Zi] at he
      split at he
      . rename_i hnd
        obtain⟨_,h4,he⟩:=aG he
        simp only[M.ev,Zc] at he
        subst he
        exact rO (aFl (ρ:=a.eval) hE hO hS hT c4 hat (rZ h4) c1 c2 c3 h1 (rA _ hnd)) hd (by simp only[execOp,hop])
      . cases he
    . cases he
  . cases he
 . rename_i t x hop
   by_cases hu:e.upd=[]
   . exact give (aLv hE hO (hat x).1 (hat x).2 hu he) (by simp only[execOp,hop])
   . exact rO (aHD hE hO hS (hat x).1 hu he) hd (by simp only[execOp,hop])
 . rename_i t x v hop
   exact aMV (aKB hE hO hS (hat x).1 (hat v).1 (hat v).2 he) hd (by simp only[execOp,hop])
 ·
  rename_i x hop
  have hx:=hat x
  split at he
  . rename_i q p T hc
    rw[hc] at hx
    obtain⟨cs,⟨h1,rfl⟩,hv⟩:=hx.1
    refine give (r:=pure (a.eval x)) (jA he (by simp) hx.1 hx.2) (by simp only[execOp,hop,hv];rfl)
  . rename_i q p T hc
    rw[hc] at hx
    obtain⟨cs,⟨h1,rfl,_⟩,hv⟩:=hx.1
    refine give (r:=pure (a.eval x)) (jA he (by simp) hx.1 hx.2) (by simp only[execOp,hop,hv];rfl)
  . rename_i T z hc
    rw[hc] at hx
    obtain⟨cs,⟨b,off,l,rfl,_⟩,hv⟩:=hx.1
    refine give (r:=pure (a.eval x)) (jA he (by simp) hx.1 hx.2) (by simp only[execOp,hop,hv];rfl)
  . cases he
 . rename_i t x k hop
   exact give (aGB hE hO (hat x).1 (hat x).2 he) (by simp only[execOp,hop])
 ·
  rename_i t x k hop
  split at he
  . rename_i T c hT hc
    have hx:=hat x
    rw[hc] at hx
    split at he
    . rename_i U hn
      rw[Zi] at he
      split at he
      . rename_i hf
        exact give (aLo hE hT hn hf hx.1 hx.2 he) (by simp only[execOp,hop])
      . cases he
    . cases he
  . cases he
 . rename_i t x i hop
   exact give (aKJ hE hO (hat x).1 (hat x).2 (hat i).1 he) (by simp only[execOp,hop])
 ·
  rename_i t x i hop
  split at he
  . rename_i s k n hT hs hi
    have hx:=(hat x).1
    have hy:=(hat i).1
    rw[hs] at hx
    rw[hi] at hy
    obtain⟨hv,_⟩:=aAA hx
    obtain⟨hw,_⟩:=wJ hy
    obtain⟨c1,he⟩:=gM he
    obtain⟨c2,he⟩:=gM he
    refine give (r:=Instr.index t (a.eval x) (a.eval i)) ?_ (by simp only[execOp,hop])
    rw[hv,hw]
    exact aM9 hE hT (Ze c1) (Ze c2) he
  . cases he
 ·
  rename_i t x lo hi mx hop
  split at he
  . rename_i l h m h1 h2 h3
    exact give (aKY hE hO (hat x).1 (hat x).2 (aIU hS lo h1) (aIU hS hi h2) (aIU hS mx h3) he) (by simp only[execOp,hop])
  . cases he
 ·
  rename_i x k hop
  split at he
  . rename_i c hc
    have hx:=hat x
    rw[hc] at hx
    split at he
    . rename_i d hcd
      obtain⟨vs,hv,hvs⟩:=hx.1
      obtain⟨v,g1,g2,g3⟩:=aI1 c hcd hvs
      refine give (r:=Instr.extract (a.eval x) k) (jA he (v:=v) ?_ g2 (fun q hq=>hx.2 q (g3 q hq))) (by simp only[execOp,hop])
      rw[hv]
      simp[Instr.extract,g1]
    . cases he
  . cases he
 ·
  rename_i t l c hop
  split at he
  . rename_i t' T _ x _ y hT hl hc
    rw[Zi] at he
    split at he
    . rename_i ht
      obtain⟨c1,he⟩:=gM he
      obtain⟨c2,he⟩:=gM he
      obtain⟨c3,he⟩:=gM he
      obtain⟨_,h4,he⟩:=aG he
      simp only[M.ev,Zc] at he
      subst he
      have hx:=(hat l).1
      have hy:=(hat c).1
      rw[hl] at hx
      rw[hc] at hy
      obtain⟨hv,_⟩:=wJ hx
      obtain⟨hw,_⟩:=wJ hy
      refine rO (r:=Instr.makeSlice t (a.eval l) (a.eval c)) ?_ hd (by simp only[execOp,hop])
      rw[hv,hw]
      exact aGt hE hO hS hT ht (rZ h4) (Ze c1) (Ze c2) (Ze c3)
    . cases he
  . cases he
 ·
  rename_i c hop
  exact aMz hE ⟨hd,φ,ψ,Av,hO,hS⟩ hop he
 . cases he
end
end Go.Aw
