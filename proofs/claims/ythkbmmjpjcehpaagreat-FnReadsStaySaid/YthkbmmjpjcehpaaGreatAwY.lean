/-
 One operation.
-/
import Derived.Test.YthkbmmjpjcehpaaGreatAwX
namespace Go.Aw
open Go.IntKind (wrap)
open List (length)
section
variable {cx:Cx} {w:World} {σ:St} {E:fN} {e:rE} {a:Act}
def Wp(cx:Cx)(σ:St)(o:Oper)(a:Act)(w:World)(e:rE):Prop:=
 ∀(next:Act->World->Prop) (Q:Exit->Act->World->Prop),(∀a' w',rO cx (σ.apply o.dst e) a' w'->next a' w')->o.wp cx.P a w next Q
theorem oQ{o:Oper}{r:Sem Value}(h:sF cx σ a.tmps r w e)(hd:a.defers=[])(hx:execOp a.eval o=(do pure (.value (<-r)))):Wp cx σ o a w e:=by
 intro next Q hn
 obtain⟨v,w',h1,h2⟩:=h.fin hd o.dst
 unfold Oper.wp
 rw[hx]
 simp only[Sem.run_bind,h1,Result.andThen_ok,Sem.run_pure,Oper.upon_value]
 exact hn _ _ h2
theorem aIX{o:Oper}{r:Sem Unit}(h:sF cx σ a.tmps (do r;pure undef) w e)(hd:a.defers=[])(hx:execOp a.eval o=(do r;pure .skip)):Wp cx σ o a w e:=by
 intro next Q hn
 obtain⟨v,w',h1,h2⟩:=h.fin hd o.dst
 unfold Oper.wp
 rw[hx]
 simp only[Sem.run_bind,Sem.run_pure] at h1
 cases hr:r.run cx.P w with
 |halt hh w1=>rw[hr] at h1;cases h1
 |ok u w1=>
  rw[hr] at h1
  simp only[Result.andThen_ok,Result.ok.injEq] at h1
  obtain⟨rfl,rfl⟩:=h1
  simp only[Sem.run_bind,hr,Result.andThen_ok,Sem.run_pure,Oper.upon_skip]
  exact hn _ _ h2
theorem wR{o:Oper}{f:FuncId}{args:Array Value}(h:Calls cx.P f args w fun d w'=>∃v,d=.returned v/\aDB cx σ a.tmps e v w')(hd:a.defers=[])(hx:(execOp a.eval o).run cx.P w=.ok (.enter f args) w):Wp cx σ o a w e:=by
 intro next Q hn
 unfold Oper.wp
 rw[hx,Oper.upon_enter]
 refine Calls.mono h fun d w' hdv=>?_
 obtain⟨v,rfl,hv⟩:=hdv
 exact hn _ _ (hv.fin hd o.dst)
theorem wT{φ:Nat->cY}{Av:Nat->Prop}(hS:jC cx.P φ Av σ a.tmps w):(l:List Operand)->{cs:List CT}->aDE (l.map σ.at)=some cs->mG cx φ w Av σ.objs cs (l.map a.eval)/\∀c∈cs,c.isDef=true
 |[],cs,h=>by
  simp only[List.map_nil,aDE,Zc] at h
  subst h
  exact⟨rfl,(fun c hc=>by cases hc)⟩
 |x::l,cs,h=>by
  simp only[List.map_cons] at h
  have hx:=yO hS x
  generalize σ.at x=s at h hx
  cases s with
  |tup c=>cases h
  |one c=>
   simp only[aDE,Zi] at h
   split at h
   . rename_i hd
     split at h
     . rename_i l' hl
       simp only[Zc] at h
       subst h
       obtain⟨h1,h2⟩:=wT hS l hl
       refine⟨⟨a.eval x,_,rfl,hx.1,hx.2,h1⟩,fun c' hc'=>?_⟩
       rcases List.mem_cons.1 hc' with rfl|hc'
       . exact hd
       . exact h2 c' hc'
     . cases h
   . cases h
theorem aDl{φ:Nat->cY}{Av:Nat->Prop}:(cs:List CT)->{vs:List Value}->mG cx φ w Av σ.objs cs vs->(∀c∈cs,c.isDef=true)->(uV cs).caps cx.P φ w Av (aZ σ.objs) vs/\∀q∈(uV cs).named,keys σ.objs q
 |[],vs,h,_=>by
  have h':vs=[]:=h
  exact⟨h',(fun q hq=>by cases hq)⟩
 |c::cs,vs,h,hd=>by
  obtain⟨v,r,rfl,h1,h2,h3⟩:=h
  obtain⟨d1,d2⟩:=uD (hd c (by simp))
  obtain⟨g1,g2⟩:=aDl cs h3 (fun c' hc'=>hd c' (by simp[hc']))
  refine⟨⟨v,r,rfl,fW h1 d1 d2,g1⟩,fun q hq=>?_⟩
  simp only[uV,CT.named,Zp] at hq
  exact hq.elim (h2 q) (g2 q)
theorem aEJ{φ:Nat->cY}{Av:Nat->Prop}:(c:CT)->{vs:List Value}->c.caps cx.P φ w Av (aZ σ.objs) vs->(∀q∈c.named,keys σ.objs q)->mG cx φ w Av σ.objs (sL c) vs
 |.pair c d,vs,h,hk=>by
  obtain⟨v,r,rfl,⟨cs,h1,h2⟩,h3⟩:=h
  refine⟨v,r,rfl,?_,fun q hq=>hk q (by simp only[CT.named,Zp];exact .inl hq),aEJ d h3 fun q hq=>hk q (by simp only[CT.named,Zp];exact .inr hq)⟩
  cases c with
  |undef=>trivial
  |skip=>exact h1.elim
  |_=>exact⟨cs,h1,h2⟩
 |.undef,vs,h,hk=>h
 |.skip,vs,h,hk=>h
 |.nil,vs,h,hk=>h
 |.unit,vs,h,hk=>h
 |.dat _ _,vs,h,hk=>h
 |.arr _,vs,h,hk=>h
 |.sub _ _ _,vs,h,hk=>h
 |.bor _ _,vs,h,hk=>h
 |.bptr _ _ _,vs,h,hk=>h
 |.eptr _ _ _,vs,h,hk=>h
 |.dptr _ _,vs,h,hk=>h
 |.clo _ _,vs,h,hk=>h
 |.fn _ _ _ _,vs,h,hk=>h
theorem mG.app{φ:Nat->cY}{Av:Nat->Prop}{ds:List CT}{us:List Value}:(cs:List CT)->{vs:List Value}->mG cx φ w Av σ.objs cs vs->mG cx φ w Av σ.objs ds us->mG cx φ w Av σ.objs (cs++ds) (vs++us)
 |[],vs,h,h'=>by
  have:vs=[]:=h
  subst this;exact h'
 |c::cs,vs,h,h'=>by
  obtain⟨v,r,rfl,h1,h2,h3⟩:=h
  exact⟨v,r++us,rfl,h1,h2,mG.app cs h3 h'⟩
theorem aF1{φ:Nat->cY}{Av al:Nat->Prop}:(c:CT)->{k:Nat}->{d:CT}->{vs:List Value}->c.comp k=some d->c.vals cx.P φ w Av al vs->∃v,vs[k]?=some v/\d.val cx.P φ w Av al v/\∀q∈d.named,q∈c.named
 |.pair a b,k,d,vs,h,hv=>by
  obtain⟨v,r,rfl,h1,h2⟩:=hv
  cases k with
  |zero=>
   simp only[CT.comp,Zc] at h;subst h
   exact⟨v,rfl,h1,fun q hq=>by simp only[CT.named,Zp];exact .inl hq⟩
  |succ k=>
   simp only[CT.comp] at h
   obtain⟨u,g1,g2,g3⟩:=aF1 b h h2
   exact⟨u,by simpa using g1,g2,fun q hq=>by simp only[CT.named,Zp];exact .inr (g3 q hq)⟩
 |.unit,k,d,vs,h,hv=>by cases h
 |.undef,_,_,_,h,_=>by cases h
 |.skip,_,_,_,h,_=>by cases h
 |.nil,_,_,_,h,_=>by cases h
 |.dat _ _,_,_,_,h,_=>by cases h
 |.arr _,_,_,_,h,_=>by cases h
 |.sub _ _ _,_,_,_,h,_=>by cases h
 |.bor _ _,_,_,_,h,_=>by cases h
 |.bptr _ _ _,_,_,_,h,_=>by cases h
 |.eptr _ _ _,_,_,_,h,_=>by cases h
 |.dptr _ _,_,_,_,h,_=>by cases h
 |.clo _ _,_,_,_,h,_=>by cases h
 |.fn _ _ _ _,_,_,_,h,_=>by cases h
theorem aG5{φ:Nat->cY}{Av:Nat->Prop}(hS:jC cx.P φ Av σ a.tmps w)(x:Option Operand){y:Option Int}(h:bnd σ.at x=some y):aDx y (x.map a.eval):=by
 cases x with
 |none=>simp only[bnd,Zc] at h;subst h;trivial
 |some x=>
  have hx:=(yO hS x).1
  simp only[bnd] at h
  split at h
  . rename_i k n hs
    simp only[Zc] at h;subst h
    rw[hs] at hx
    obtain⟨hv,_⟩:=sE hx
    simp only[Option.map_some,hv]
    rfl
  . cases h
theorem bW.flat{T:Ty}{xs:List T.D}{cs:List Value}{Fs:Nat->Nat->Prop}(hf:T.flat=true)(h:bW w T xs cs Fs):∀u∈cs,aG2 u=false:=by
 intro u hu
 obtain⟨j,hj,rfl⟩:=List.getElem_of_mem hu
 have hlen:=h.len
 have hz:0<T.sz:=by
  rcases Nat.eq_zero_or_pos T.sz with h0|h0
  . rw[h0,Nat.mul_zero] at hlen;omega
  . exact h0
 have hi:j/T.sz<xs.length:=by rw[Nat.div_lt_iff_lt_mul hz];omega
 have hx:=h.el (j/T.sz) _ (Zm hi)
 have hm:=Nat.mod_lt j hz
 have hdm:=Nat.div_add_mod j T.sz
 rw[Nat.mul_comm] at hdm
 have:(fC cs (j/T.sz*T.sz) T.sz)[j%T.sz]?=some cs[j]:=by
  rw[qW hm,hdm,Zm hj]
 exact vD T hf hx _ (List.mem_of_getElem? this)
theorem aG7{α:Type}{lo hi:Nat}{z:α}{xs:List α}(h1:lo<=hi)(h2:hi<=xs.length):(oS lo hi z xs).length=xs.length:=by
 unfold oS;simp only[Zf,Zr,List.length_replicate,Zs];omega
theorem aG9{α:Type}{lo hi i:Nat}{z:α}{xs:List α}(h1:lo<=hi)(h2:hi<=xs.length)(h:i<lo\/hi<=i):(oS lo hi z xs)[i]?=xs[i]?:=by
 unfold oS
 have hl:(xs.take lo).length=lo:=by rw[Zr];omega
 rcases h with h|h
 . rw[Zk,List.getElem?_append_left (by omega),List.getElem?_take_of_lt h]
 . rw[List.getElem?_append_right (by rw[Zf,List.length_replicate];omega),Zf,List.length_replicate,hl,List.getElem?_drop]
   congr 1;omega
theorem aGZ{α:Type}{lo hi i:Nat}{z:α}{xs:List α}(h2:hi<=xs.length)(h3:lo<=i)(h4:i<hi):(oS lo hi z xs)[i]?=some z:=by
 unfold oS
 have hl:(xs.take lo).length=lo:=by rw[Zr];omega
 rw[Zk,List.getElem?_append_right (by omega),List.getElem?_append_left (by rw[List.length_replicate];omega),List.getElem?_replicate,if_pos (by omega)]
theorem aEU{α:Type}{lo:Nat}{z:α}{xs:List α}:oS lo lo z xs=xs:=by
 unfold oS;simp
theorem aFD{P:Program}{t ty t1 t2:TypeId}{T:Ty}{xs:List T.D}{hdr v:Value}{F:Nat->Prop}{lo hi:Nat}(hT:nC P (.sl t1 T) (.t t)=true)(h:nJ w (.sl t2 T) xs [hdr] F)(hs:vB hdr T.sz lo hi v)(hf:T.flat=true)
 (ht:T.told=true):∃w',(Builtin.clear_ #[t] ty #[v]).run P w=.ok (.tuple #[]) w'/\nJ w' (.sl t2 T) (oS (α:=T.D) lo hi T.zero xs) [hdr] F/\vG w w'/\(∀q,¬F q->w'.heap[q]?=w.heap[q]?)/\aIg w w' (fun _=>True):=by
 cases eZ hT;rename_i hu hte
 obtain⟨i,z,hi',hsz,hb,hzz,hzc⟩:=uR hte ht
 have hzz':(zeroValue t1).run P w=.ok z w:=by simp[zeroValue,typeInfo,hi',hzz]
 by_cases hlh:hi-lo=0
 . have hv:∃a c,v=.slice a 0 c:=by
    unfold vB at hs
    split at hs
    . obtain⟨_,_,c,_,_,h1|h1⟩:=hs
      . exact⟨_,_,by rw[h1,hlh]⟩
      . exact⟨_,_,by rw[h1.2,hlh]⟩
    . exact⟨_,_,hs.2.2⟩
    . exact hs.elim
   obtain⟨a,c,rfl⟩:=hv
   have hle:lo=hi:=by
    unfold vB at hs
    split at hs
    . omega
    . omega
    . exact hs.elim
   subst hle
   refine⟨w,?_,by rw[aEU];exact h,⟨rfl,rfl,rfl,rfl⟩,fun _ _=>rfl,fun _ _ _ _ h _=>h⟩
   cases a<;>simp[Builtin.clear_,run_underlying hu]
 . rcases h with⟨h1,h2,h3⟩|⟨b,off,cap,c,E,fr,Fs,h1,h2,h3,h4,h5,h6,h7,h8,h9,h10⟩
   . simp only[List.cons.injEq,and_true] at h1
     subst h1
     simp only[vB] at hs
     omega
   . simp only[List.cons.injEq,and_true] at h1
     subst h1
     simp only[vB] at hs
     obtain⟨g1,g2,cap',g3,g4,g5⟩:=hs
     have hv:v=.slice (some ⟨b,off+lo*T.sz,none⟩) (hi-lo) cap':=g5.resolve_right (by omega)
     subst hv
     obtain⟨k,hk⟩:∃k,hi-lo=k+1:=⟨hi-lo-1,by omega⟩
     have hcl:c.toList.length=c.size:=Array.length_toList
     have hmul:hi*T.sz<=cap*T.sz:=Nat.mul_le_mul_right _ (by omega)
     have hmul2:lo*T.sz+(hi-lo)*T.sz=hi*T.sz:=by rw[<-Nat.add_mul];congr 1;omega
     obtain⟨zs,hzs⟩:∃zs,zs=(madeCells T.zcells.toArray ((hi-lo)*T.sz)).toList:=⟨_,rfl⟩
     have hzl:zs.length=(hi-lo)*T.sz:=by rw[hzs,Array.length_toList,size_madeCells]
     have hrz:bW w T (List.replicate (hi-lo) T.zero) (fC zs 0 ((hi-lo)*T.sz)) (fun _ _=>False):=by rw[hzs];exact aCL ht _ _ (Nat.le_refl _)
     have hsegz:fC zs 0 ((hi-lo)*T.sz)=zs:=by unfold fC;rw[List.drop_zero,List.take_of_length_le (by omega)]
     rw[hsegz] at hrz
     obtain⟨w',r1,r2,r3,r4⟩:=rQ (P:=P) (off:=off+lo*T.sz) zs 0 c w h2 (by omega) (pX h6 (by omega) (by omega)) hrz.one
     rw[Nat.add_zero] at r2
     have hsp:off+lo*T.sz+zs.length<=c.toList.length:=by omega
     have hbF:F b:=(h7 b).2 (.inl rfl)
     have hFb:∀q,F q↔q=b:=fun q=>by
      rw[h7]
      constructor
      . rintro(h|⟨i,hi,h⟩)
        . exact h
        . exact absurd h (oX T hf (h10 i _ (Zm hi)) q)
      . exact .inl
     have hzlen:=aG7 (z:=T.zero) g1 g2
     refine⟨w',?_,?_,r4,fun q hq=>r3 q (by rintro rfl;exact hq hbF),?_⟩
     . have hmade:(Builtin.zeroCells z.cells (hi-lo)).toList=zs:=by
        rw[hzs,hzc];simp[Builtin.zeroCells,madeCells,mT]
       rw[hk] at hmade ⊢
       simp[Builtin.clear_,run_underlying hu,hzz',hmade,r1]
     . refine .inr ⟨b,off,cap,_,E,fr,fun _ _=>False,by rw[hzlen],r2,by rw[hzlen];exact h3,h4,by simp only[List.size_toArray];rw[sB hsp,hcl];exact h5,h6,fun q=>?_,fun _ _ h=>h,fun _ _ _ _ _ _ h=>h.elim,fun j x hx=>?_⟩
       . rw[hFb]
         exact⟨.inl,fun h=>h.elim id fun⟨_,_,h⟩=>h.elim⟩
       . have hj:=eW hx
         rw[hzlen] at hj
         by_cases hin:lo<=j/\j<hi
         . rw[aGZ g2 hin.1 hin.2] at hx
           have hz0:=hrz.el (j-lo) T.zero (by rw[List.getElem?_replicate,if_pos (by omega)])
           have he:fC (eC c.toList (off+lo*T.sz) zs) (off+j*T.sz) T.sz=fC zs ((j-lo)*T.sz) T.sz:=by
            have h11:off+j*T.sz=off+lo*T.sz+(j-lo)*T.sz:=by rw[Nat.add_assoc,<-Nat.add_mul];congr 2;omega
            have h12:=dI (k:=T.sz) (show j-lo<hi-lo by omega)
            rw[h11,<-rM (n:=zs.length) (by omega),vF hsp]
           cases hx
           show nJ w' T _ (fC (eC c.toList (off+lo*T.sz) zs) _ _) _
           rw[he]
           exact kP T hf (iK (Av:=fun _=>True) T (fun _ _=>trivial) hz0)
         . rw[aG9 g1 g2 (by omega)] at hx
           have he:fC (eC c.toList (off+lo*T.sz) zs) (off+j*T.sz) T.sz=fC c.toList (off+j*T.sz) T.sz:=by
            refine xN fun a ha1 ha2=>mN hsp ?_
            rcases Nat.lt_or_ge j lo with h11|h11
            . have:=dI (k:=T.sz) h11
              exact .inl (by omega)
            . have:hi*T.sz<=j*T.sz:=Nat.mul_le_mul_right _ (by omega)
              exact .inr (by omega)
           show nJ w' T _ (fC (eC c.toList (off+lo*T.sz) zs) _ _) _
           rw[he]
           exact kP T hf (iK (Av:=fun _=>True) T (fun _ _=>trivial) (h10 j x hx))
     . intro b1 off1 u _ hu hsu
       by_cases hb1:b1=b
       . subst hb1
         rw[nH h2] at hu
         rw[nH r2]
         simp only[Option.bind_some] at hu ⊢
         by_cases hin:off1<off+lo*T.sz\/off+lo*T.sz+zs.length<=off1
         . rw[mN hsp hin];exact hu
         . have hold:bW w T xs (fC c.toList off (xs.length*T.sz)) Fs:=⟨lH (by have:=Nat.mul_le_mul_right T.sz h3;omega),fun j x hx=>by
            have hmul:=dI (k:=T.sz) (eW hx)
            rw[rM hmul];exact h10 j x hx,h9⟩
           have hm3:hi*T.sz<=xs.length*T.sz:=Nat.mul_le_mul_right _ g2
           have:u∈fC c.toList off (xs.length*T.sz):=by
            have h11:(fC c.toList off (xs.length*T.sz))[off1-off]?=some u:=by
             rw[qW (by omega)]
             rw[<-hu];congr 1;omega
            exact List.mem_of_getElem? h11
           rw[hold.flat hf u this] at hsu;cases hsu
       . rw[rS (r3 b1 hb1)];exact hu
theorem aHl{φ:Nat->cY}{ψ:Nat->Nat->Prop}{Av:Nat->Prop}{tmps:Array Value}{t ty:TypeId}{s:SV}{x:Value}(hE:aT cx.P E)(hO:gL cx φ ψ Av σ.objs w)(hS:jC cx.P φ Av σ tmps w)(hx:s.rep cx.P φ w Av (aZ σ.objs) x)
 (he:(aE8 (E.ty t) s).ev (find σ.objs)=some e):sF cx σ tmps (Builtin.clear_ #[t] ty #[x]) w e:=by
 unfold aE8 at he
 split at he
 . rename_i t1 T o lo hi hT
   simp only[M.ev] at he
   split at he
   . rename_i t' T' xs ho
     rw[Zi] at he
     split at he
     . rename_i hc
       simp only[Zb,Za,Ty.sl.injEq] at hc
       obtain⟨⟨rfl,rfl⟩,hf,ht⟩:=hc
       simp only[M.ev,Zc] at he
       subst he
       obtain⟨hee,hrd⟩:=hO.reps o _ ho
       obtain⟨cs,hcs,rfl⟩:=hx
       obtain⟨v,rfl,hsub⟩:=hcs
       rw[hee] at hsub
       obtain⟨w',r1,r2,r3,r4,r5⟩:=aFD (ty:=ty) (hE.ty _ _ hT) hrd hsub hf ht
       have r3s:=r3.size
       have hst:lM φ w φ w' o:=zN (D:=fun _=>True) r5 hee hrd (fun _ _=>trivial)
       refine One.does (l:=[]) (n:=o) (X:=.arr t' T' _) (φ':=φ) (ψ':=ψ) hO hS
        ⟨by simp,by simp,(fun o ho=>by cases ho),fun _ _=>rfl,fun _ _=>rfl,fun _=>rfl,r3.grew,fun b hb hno=>?_,fun b hb=>?_,(fun q hq=>by cases hq),fun _ _=>.inl ⟨⟨t',T',xs,ho⟩,hst⟩⟩ ⟨hee,r2⟩ r1 rfl rfl
         ⟨[],rfl,rfl⟩ (fun q hq=>by cases hq)
       . exact r4 b fun hq=>hno ⟨o,_,by simp,ho,hq⟩
       . have:=(hO.own o _ ho b hb).1
         exact⟨by omega,.inr ⟨o,_,by simp,ho,hb⟩⟩
     . cases he
   . cases he
 . cases he
def aIL(E:fN)(n:Nat)(c:Call)(σ:Operand->SV):M rE:=
 match c.callee with
  |.builtin .len=>match c.args.toList,c.argTypes.toList with
   |[x],t::_=>aJd (E.ty t) (σ x)
   |_,_=>.fail
  |.builtin .append=>match c.args.toList,c.argTypes.toList with
   |[x,y],[t,u]=>match E.ty u with
    |some (.int _)=>tA (E.ty t) (E.ty u) (σ x) (σ y) n
    |_=>aBk (E.ty t) (E.ty u) (σ x) (σ y) n
   |_,_=>.fail
  |.builtin .cap=>match c.args.toList,c.argTypes.toList with
   |[x],t::_=>match E.ty t,σ x with
    |some (.sl _ _),.one .nil=>ok (.dat (.int .i64) (0:Int))
    |_,_=>.fail
   |_,_=>.fail
  |.builtin .clear=>match c.args.toList,c.argTypes.toList with
   |[x],[t]=>aE8 (E.ty t) (σ x)
   |_,_=>.fail
  |.builtin .min=>aE9 false (c.args.toList.map σ)
  |.builtin .max=>aE9 true (c.args.toList.map σ)
  |.value (.func f)=>match aDE (c.args.toList.map σ) with
   |some cs=>match aDN E f (aFZ cs) with
    |some e=>aFe E.fs e cs n
    |none=>match E.fs f with
     |some s=>aB6 E.fs s cs n
     |none=>.fail
   |none=>.fail
  |.value (.tmp t)=>match σ (.tmp t),aDE (c.args.toList.map σ) with
   |.one (.clo f caps),some cs=>match E.fw f f with
    |some e=>aFe E.fs e (cs++sL caps) n
    |none=>match E.fs f with
     |some s=>aB6 E.fs s (cs++sL caps) n
     |none=>.fail
   |.one (.fn A B pre g),some [c]=>(lJ A c).bind fun x=>.chk (pre x) (ok (.dat B (g x)))
   |_,_=>.fail
  |_=>.fail
theorem gP{α:Type}{a:Array α}{l:List α}(h:a.toList=l):a=l.toArray:=by rw[<-h]
theorem aFq(l:List Operand)(f:Operand->SV)(g:Operand->Value)(i:Nat)(s:SV)(v:Value)(h1:(l.map f)[i]?=some s)(h2:(l.map g)[i]?=some v):∃x,f x=s/\g x=v:=by
 rw[List.getElem?_map] at h1 h2
 cases hx:l[i]? with
 |none=>rw[hx] at h1;cases h1
 |some x=>
  rw[hx] at h1 h2
  simp only[Option.map_some,Zc] at h1 h2
  exact⟨x,h1,h2⟩
theorem aIV{o:Oper}{n:Nat}{c:Call}(hE:aT cx.P E)(hI:rO cx σ a w)(hop:o.op=.call c)(he:(aIL E n c σ.at).ev (find σ.objs)=some e):Wp cx σ o a w e:=by
 obtain⟨hd,φ,ψ,Av,hO,hS⟩:=hI
 have hat:=yO hS
 have give:∀{r:Sem Value},sX cx φ w Av σ.objs r e->execOp a.eval o=(do pure (.value (<-r)))->Wp cx σ o a w e:=fun h hx=>oQ (h.does hO hS) hd hx
 unfold aIL at he
 split at he
 . rename_i hcal
   split at he
   . rename_i x t ts hx ht
     have hx:=gP hx
     have ht:=gP ht
     refine give (r:=Builtin.len_ (t::ts).toArray o.type #[a.eval x]) (aJf hE hO (hat x).1 he) ?_
     simp only[execOp,hop,resolve,hcal,hx,ht]
     simp[invoke,builtin]
   . cases he
 . rename_i hcal
   split at he
   . rename_i x y t u hx ht
     have hx:=gP hx
     have ht:=gP ht
     have hex:execOp a.eval o=(do pure (.value (<-Builtin.append_ #[t,u] o.type #[a.eval x,a.eval y]))):=by
      simp only[execOp,hop,resolve,hcal,hx,ht]
      simp[invoke,builtin]
     split at he
     . exact oQ (aCH hE hO hS (hat x).1 (hat y).1 he) hd hex
     . exact oQ (aFX hE hO hS (hat x).1 (hat y).1 he) hd hex
   . cases he
 . rename_i hcal
   split at he
   . rename_i x t ts hx ht
     have hx:=gP hx
     have ht:=gP ht
     split at he
     . rename_i t1 T hT hnil
       cases eZ (hE.ty _ _ hT);rename_i hu hte
       have hv:=(hat x).1
       rw[hnil] at hv
       obtain⟨cs,rfl,hv⟩:=hv
       have he':(⟨.one (.dat (.int .i64) (0:Int)),[],none⟩:rE)=e:=by simpa [ok,M.ev] using he
       subst he'
       have hv0:a.eval x=.slice none 0 0:=hv
       refine give (r:=Builtin.cap_ (t::ts).toArray o.type #[a.eval x]) ⟨⟨.int .i64 0,?_,⟨_,⟨rfl,aC3 _⟩,rfl⟩⟩,rfl,rfl,fun q hq=>by cases hq⟩ ?_
       . rw[hv0]
         simp[Builtin.cap_,run_underlying hu,goInt]
       . simp only[execOp,hop,resolve,hcal,hx,ht]
         simp[invoke,builtin]
     . cases he
   . cases he
 . rename_i hcal
   split at he
   . rename_i x t hx ht
     have hx:=gP hx
     have ht:=gP ht
     refine oQ (aHl (ty:=o.type) hE hO hS (hat x).1 he) hd ?_
     simp only[execOp,hop,resolve,hcal,hx,ht]
     simp[invoke,builtin]
   . cases he
 . rename_i hcal
   refine give (r:=Builtin.min_ c.argTypes o.type (c.args.toList.map a.eval).toArray) ?_ ?_
   . have:=aGj (P:=cx.P) (w:=w) (φ:=φ) (Av:=Av) (al:=aZ σ.objs) (ks:=keys σ.objs) (ts:=c.argTypes) (ty:=o.type) (mx:=false) (ss:=c.args.toList.map σ.at) (vs:=c.args.toList.map a.eval) (by simp) (fun i s v h1 h2=>by
      obtain⟨x,rfl,rfl⟩:=aFq _ _ _ i s v h1 h2
      exact(hat x).1) he
     simpa using this
   . have hm:c.args.map a.eval=(c.args.toList.map a.eval).toArray:=gP (by simp)
     simp only[execOp,hop,resolve,hcal,hm]
     rfl
 . rename_i hcal
   refine give (r:=Builtin.max_ c.argTypes o.type (c.args.toList.map a.eval).toArray) ?_ ?_
   . have:=aGj (P:=cx.P) (w:=w) (φ:=φ) (Av:=Av) (al:=aZ σ.objs) (ks:=keys σ.objs) (ts:=c.argTypes) (ty:=o.type) (mx:=true) (ss:=c.args.toList.map σ.at) (vs:=c.args.toList.map a.eval) (by simp) (fun i s v h1 h2=>by
      obtain⟨x,rfl,rfl⟩:=aFq _ _ _ i s v h1 h2
      exact(hat x).1) he
     simpa using this
   . have hm:c.args.map a.eval=(c.args.toList.map a.eval).toArray:=gP (by simp)
     simp only[execOp,hop,resolve,hcal,hm]
     rfl
 . rename_i f hcal
   split at he
   . rename_i cs hcs
     obtain⟨h1,_⟩:=wT hS c.args.toList hcs
     have hrun:∀{fn:Func},cx.P.funcs[f]?=some fn->fn.body.isSome=true->(fn.name== "runtime.NumGoroutine")=false->(execOp a.eval o).run cx.P w=.ok (.enter f (c.args.toList.map a.eval).toArray) w:=by
      intro fn g1 g2 g3
      have hm:c.args.map a.eval=(c.args.toList.map a.eval).toArray:=gP (by simp)
      have hev:a.eval (.func f)=.func (.func f) #[] #[]:=rfl
      simp only[execOp,hop,resolve,hcal,hev,Deferred.ofValue,Sem.run_bind,Sem.run_pure,Result.andThen_ok,invoke,hm]
      have:#[]++(c.args.toList.map a.eval).toArray++#[]=(c.args.toList.map a.eval).toArray:=by simp
      rw[this]
      exact vE g1 g2 g3
     split at he
     . rename_i en hw
       obtain⟨g,hg⟩:∃g,E.fw f g=some en:=by
        unfold aDN at hw
        split at hw
        . exact⟨_,hw⟩
        . cases hw
       obtain⟨_,fn,g1,g2,g3⟩:=hE.fw f g en hg
       exact wR (aF8 hE hO hS hg h1 he) hd (hrun g1 g2 g3)
     . split at he
       . rename_i s hs
         obtain⟨_,fn,g1,g2,g3⟩:=hE.fs f s hs
         exact wR (aEH hE hO hS hs h1 he) hd (hrun g1 g2 g3)
       . cases he
   . cases he
 . rename_i t hcal
   split at he
   . rename_i f caps cs hclo hcs
     obtain⟨h1,_⟩:=wT hS c.args.toList hcs
     have hv:=hat (.tmp t)
     rw[hclo] at hv
     obtain⟨_,⟨vs,rfl,hcaps⟩,hval⟩:=hv.1
     have h2:=mG.app cs h1 (aEJ caps hcaps hv.2)
     have hrun:∀{fn:Func},cx.P.funcs[f]?=some fn->fn.body.isSome=true->(fn.name== "runtime.NumGoroutine")=false->(execOp a.eval o).run cx.P w=.ok (.enter f (c.args.toList.map a.eval++vs).toArray) w:=by
      intro fn g1 g2 g3
      have hm:c.args.map a.eval=(c.args.toList.map a.eval).toArray:=gP (by simp)
      have hev:a.eval (.tmp t)=.func (.func f) #[] vs.toArray:=hval
      simp only[execOp,hop,resolve,hcal,hev,Deferred.ofValue,Sem.run_bind,Sem.run_pure,Result.andThen_ok,invoke,hm]
      have:#[]++(c.args.toList.map a.eval).toArray++vs.toArray=(c.args.toList.map a.eval++vs).toArray:=by simp
      rw[this]
      exact vE g1 g2 g3
     split at he
     . rename_i en hw
       obtain⟨_,fn,g1,g2,g3⟩:=hE.fw f f en hw
       exact wR (aF8 hE hO hS hw h2 he) hd (hrun g1 g2 g3)
     . split at he
       . rename_i s hs
         obtain⟨_,fn,g1,g2,g3⟩:=hE.fs f s hs
         exact wR (aEH hE hO hS hs h2 he) hd (hrun g1 g2 g3)
       . cases he
   . rename_i A B pre g d hfn hcs
     obtain⟨h1,hdf⟩:=wT hS c.args.toList hcs
     obtain⟨v,r,hvr,hvd,hkd,hr⟩:=h1
     have hr':r=[]:=hr
     subst hr'
     have hv:=hat (.tmp t)
     rw[hfn] at hv
     obtain⟨_,⟨fv,rfl,f,caps,rfl,hB,hcf,himp⟩,hval⟩:=hv.1
     obtain⟨x,hx,he⟩:=aD he
     obtain⟨hpre,he⟩:=fR he
     have he':(⟨.one (.dat B (g x)),[],none⟩:rE)=e:=by simpa [ok,M.ev] using he
     subst he'
     obtain⟨d1,d2⟩:=qJ hx
     obtain⟨cs',hc,rfl⟩:=fW hvd d1 d2
     obtain⟨k1,k2⟩:=pJ hO A d hx hc
     have hcalls:=himp w (fun b=>Av b\/Of φ ψ σ.objs d.ids b) x cs' (fun _ _=>rfl) (fun b hb=>by
      rcases hb with hb|⟨o,y,_,hy,hb⟩
      . exact(hO.av b hb).1
      . exact(hO.own o y hy b hb).1) k1 hpre
     have hlen:∃z,c.args.toList=[z]:=by
      have h3:=congrArg length hvr
      simp only[List.length_map,Zg,Zh] at h3
      match c.args.toList,h3 with
      |[z],_=>exact⟨z,rfl⟩
     obtain⟨z,hz⟩:=hlen
     rw[hz] at hvr
     simp only[List.map_cons,List.map_nil,List.cons.injEq,and_true] at hvr
     refine wR (f:=f) (args:=#[cA A.isSt cs']++caps) (Calls.mono hcalls fun d' w' hp=>?_) hd ?_
     . obtain⟨rc,rfl,h5,h6,h7⟩:=hp
       have s:pQ cx φ ψ Av σ.objs w φ ψ Av (eI σ.objs []) [] w':=
        ⟨fun o=>rfl,fun _ _=>rfl,fun _ _ _=>rfl,fun _ hb=>hb,fun _ hb=>.inl hb,fun b hb _=>h6 b hb,h7,(fun o x hx=>by cases hx),(fun o x hx=>by cases hx),(fun o x o' x' hx=>by cases hx),(fun o x hx=>by cases hx),fun o x hx hn q hq hu=>by cases hu⟩
       refine⟨_,rfl,φ,ψ,Av,eI σ.objs [],fun _=>rfl,hO.step s,(jC.step hO s hS fun t x hx q hq hu=>by cases hu),⟨rc,?_,rfl⟩,(fun q hq=>by cases hq)⟩
       exact jQ (fun b hb=>hb.elim) (fun _ _=>rfl) B h5
     . have hev:a.eval (.tmp t)=.func (.func f) #[] caps:=hval
       have hm:c.args.map a.eval=#[cA A.isSt cs']:=by
        rw[gP (a:=c.args.map a.eval) (l:=[cA A.isSt cs']) (by rw[Array.toList_map,hz];simp only[List.map_cons,List.map_nil];rw[hvr,k2])]
       simp only[execOp,hop,resolve,hcal,hev,Deferred.ofValue,Sem.run_bind,Sem.run_pure,Result.andThen_ok,invoke,hm]
       have:#[]++#[cA A.isSt cs']++caps=#[cA A.isSt cs']++caps:=by simp
       rw[this]
       exact hcf _ _
   . cases he
 . cases he
theorem aKi{o:Oper}{n:Nat}(hE:aT cx.P E)(hI:rO cx σ a w)(he:(opM E n o σ.at).ev (find σ.objs)=some e):Wp cx σ o a w e:=by
 obtain⟨hd,φ,ψ,Av,hO,hS⟩:=hI
 have hat:=yO hS
 have give:∀{r:Sem Value},sX cx φ w Av σ.objs r e->execOp a.eval o=(do pure (.value (<-r)))->Wp cx σ o a w e:=fun h hx=>oQ (h.does hO hS) hd hx
 unfold opM at he
 split at he
 . rename_i x hop
   simp only[M.ev,Zc] at he
   subst he
   exact give (r:=pure (a.eval x)) ⟨⟨_,by rw[Sem.run_pure],(hat x).1⟩,rfl,rfl,(hat x).2⟩ (by simp only[execOp,hop];rfl)
 . rename_i x hop
   simp only[M.ev,Zc] at he
   subst he
   exact give (r:=pure (a.eval x)) ⟨⟨_,by rw[Sem.run_pure],(hat x).1⟩,rfl,rfl,(hat x).2⟩ (by simp only[execOp,hop];rfl)
 ·
  rename_i c x y hop
  split at he
  . rename_i b hc
    have hb:=(hat c).1
    rw[hc] at hb
    have hb:=xI hb
    simp only[M.ev] at he
    have hex:execOp a.eval o=(do pure (.value (<-(pure (if b=true then a.eval x else a.eval y):Sem Value)))):=by
     simp only[execOp,hop,hb,asBool];rfl
    split at he
    . rename_i hbt
      simp only[M.ev,Zc] at he
      subst he
      refine give ⟨⟨_,by rw[Sem.run_pure],?_⟩,rfl,rfl,(hat x).2⟩ hex
      rw[if_pos hbt];exact(hat x).1
    . rename_i hbt
      simp only[M.ev,Zc] at he
      subst he
      refine give ⟨⟨_,by rw[Sem.run_pure],?_⟩,rfl,rfl,(hat y).2⟩ hex
      rw[if_neg hbt];exact(hat y).1
  . cases he
 ·
  rename_i op _ x hop
  have hx:=(hat x).1
  split at he
  . rename_i b hc
    rw[hc] at hx
    have hb:=xI hx
    refine give (r:=Op.unary .not (a.eval x)) (kG he ?_) (by simp only[execOp,hop])
    rw[hb];rfl
  . rename_i k m hc
    rw[hc] at hx
    obtain⟨hb,hm⟩:=sE hx
    refine give (r:=Op.unary .neg (a.eval x)) (gE he ?_ (nP _ _)) (by simp only[execOp,hop])
    rw[hb];rfl
  . cases he
 . rename_i op t x y _ hop
   exact give (aJ2 (ox:=x) (oy:=y) hE hO (hat x).1 (hat y).1 he) (by simp only[execOp,hop])
 ·
  rename_i s d x hop
  have hex:execOp a.eval o=(do pure (.value (<-convert s d (a.eval x)))):=by simp only[execOp,hop]
  by_cases hb:∃t,E.ty s=some .str/\E.ty d=some (.sl t (.int .u8))
  . obtain⟨t,h1,h2⟩:=hb
    have hx:=(hat x).1
    generalize hsx:σ.at x=sx at he hx
    rw[h1,h2] at he
    cases sx with
    |tup c=>cases he
    |one c=>
     cases c with
     |dat U z=>
      cases U with
      |str=>
       simp only[aGM] at he
       obtain⟨h3,he⟩:=fR he
       obtain⟨_,h4,he⟩:=aD he
       simp only[M.ev,Zc] at he
       subst he
       obtain⟨hv,_⟩:=wL hx
       refine oQ ?_ hd hex
       rw[hv]
       exact aIz hE hO hS h1 h2 (Ze h3) (oZ h4)
      |_=>cases he
     |_=>cases he
  . exact give (aHT hE hO (hat x).1 (fun t h=>hb ⟨t,h⟩) he) hex
 ·
  rename_i f first caps hop
  split at he
  . rename_i l hf hl
    have hfe:first=#[]:=by cases first;simp_all
    subst hfe
    obtain⟨h1,h2⟩:=wT hS caps.toList hl
    obtain⟨g1,g2⟩:=aDl l h1 h2
    refine give (r:=Instr.makeFunc (.func f) (#[].map a.eval) (caps.map a.eval)) (gZ he (v:=.func (.func f) #[] (caps.toList.map a.eval).toArray) ?_ ⟨_,⟨_,rfl,g1⟩,rfl⟩ g2) (by simp only[execOp,hop])
    simp only[Instr.makeFunc,Sem.run_pure]
    rw[sT (a:=caps.map a.eval) (l:=caps.toList.map a.eval) (by simp)]
    simp
  . cases he
 ·
  rename_i t hop
  split at he
  . rename_i T hT
    rw[Zi] at he
    split at he
    . rename_i ht
      obtain⟨_,h4,he⟩:=aD he
      simp only[M.ev,Zc] at he
      subst he
      rcases Bool.or_eq_true_iff.1 ht with ht|ht
      . exact oQ (aHY hE hO hS hT ht (oZ h4)) hd (by simp only[execOp,hop])
      . have ht:=Ze ht
        subst ht
        exact oQ (aFR hE hO hS hT (oZ h4)) hd (by simp only[execOp,hop])
    . cases he
  . cases he
 ·
  rename_i t x hop
  split at he
  . rename_i T c hT hc
    have hx:=hat x
    rw[hc] at hx
    rw[Zi] at he
    split at he
    . rename_i ht
      simp only[Zb] at ht
      obtain⟨_,h4,he⟩:=aD he
      simp only[M.ev,Zc] at he
      subst he
      exact oQ (aJP (t:=t) hO hS hx.1 hx.2 ht.1 ht.2 (oZ h4)) hd (by simp only[execOp,hop])
    . cases he
  . cases he
 ·
  rename_i t ps hop
  split at he
  . rename_i T hT
    split at he
    . rename_i c hc
      rw[Zi] at he
      split at he
      . rename_i ht
        simp only[Zb] at ht
        exact give (aIl (ρ:=a.eval) hE hT ht.1 ht.2 hat hc he) (by simp only[execOp,hop])
      . cases he
    . cases he
  . cases he
 ·
  rename_i t len ps hop
  split at he
  . rename_i t' T hT
    rw[Zi] at he
    split at he
    . rename_i hc
      simp only[Zb,Nat.beq_eq,Nat.ble_eq] at hc
      obtain⟨⟨⟨c1,c2⟩,c3⟩,c4⟩:=hc
      obtain⟨r,h1,he⟩:=aD he
      rw[Zi] at he
      split at he
      . rename_i hnd
        obtain⟨_,h4,he⟩:=aD he
        simp only[M.ev,Zc] at he
        subst he
        exact oQ (aCQ (ρ:=a.eval) hE hO hS hT c4 hat (oZ h4) c1 c2 c3 h1 (nW _ hnd)) hd (by simp only[execOp,hop])
      . cases he
    . cases he
  . cases he
 . rename_i t x hop
   by_cases hu:e.upd=[]
   . exact give (aHO hE hO (hat x).1 (hat x).2 hu he) (by simp only[execOp,hop])
   . exact oQ (aEu hE hO hS (hat x).1 hu he) hd (by simp only[execOp,hop])
 . rename_i t x v hop
   exact aIX (aHx hE hO hS (hat x).1 (hat v).1 (hat v).2 he) hd (by simp only[execOp,hop])
 ·
  rename_i x hop
  have hx:=hat x
  split at he
  . rename_i q p T hc
    rw[hc] at hx
    obtain⟨cs,⟨h1,rfl⟩,hv⟩:=hx.1
    refine give (r:=pure (a.eval x)) (gZ he (by simp) hx.1 hx.2) (by simp only[execOp,hop,hv];rfl)
  . rename_i q p T hc
    rw[hc] at hx
    obtain⟨cs,⟨h1,rfl,_⟩,hv⟩:=hx.1
    refine give (r:=pure (a.eval x)) (gZ he (by simp) hx.1 hx.2) (by simp only[execOp,hop,hv];rfl)
  . rename_i T z hc
    rw[hc] at hx
    obtain⟨cs,⟨b,off,l,rfl,_⟩,hv⟩:=hx.1
    refine give (r:=pure (a.eval x)) (gZ he (by simp) hx.1 hx.2) (by simp only[execOp,hop,hv];rfl)
  . cases he
 . rename_i t x k hop
   exact give (aDZ hE hO (hat x).1 (hat x).2 he) (by simp only[execOp,hop])
 ·
  rename_i t x k hop
  split at he
  . rename_i T c hT hc
    have hx:=hat x
    rw[hc] at hx
    split at he
    . rename_i U hn
      rw[Zi] at he
      split at he
      . rename_i hf
        exact give (aI4 hE hT hn hf hx.1 hx.2 he) (by simp only[execOp,hop])
      . cases he
    . cases he
  . cases he
 . rename_i t x i hop
   exact give (aHa hE hO (hat x).1 (hat x).2 (hat i).1 he) (by simp only[execOp,hop])
 ·
  rename_i t x i hop
  split at he
  . rename_i s k n hT hs hi
    have hx:=(hat x).1
    have hy:=(hat i).1
    rw[hs] at hx
    rw[hi] at hy
    obtain⟨hv,_⟩:=wL hx
    obtain⟨hw,_⟩:=sE hy
    obtain⟨c1,he⟩:=fR he
    obtain⟨c2,he⟩:=fR he
    refine give (r:=Instr.index t (a.eval x) (a.eval i)) ?_ (by simp only[execOp,hop])
    rw[hv,hw]
    exact aIk hE hT (Ze c1) (Ze c2) he
  . cases he
 ·
  rename_i t x lo hi mx hop
  split at he
  . rename_i l h m h1 h2 h3
    exact give (aHp hE hO (hat x).1 (hat x).2 (aG5 hS lo h1) (aG5 hS hi h2) (aG5 hS mx h3) he) (by simp only[execOp,hop])
  . cases he
 ·
  rename_i x k hop
  split at he
  . rename_i c hc
    have hx:=hat x
    rw[hc] at hx
    split at he
    . rename_i d hcd
      obtain⟨vs,hv,hvs⟩:=hx.1
      obtain⟨v,g1,g2,g3⟩:=aF1 c hcd hvs
      refine give (r:=Instr.extract (a.eval x) k) (gZ he (v:=v) ?_ g2 (fun q hq=>hx.2 q (g3 q hq))) (by simp only[execOp,hop])
      rw[hv]
      simp[Instr.extract,g1]
    . cases he
  . cases he
 ·
  rename_i t l c hop
  split at he
  . rename_i t' T _ x _ y hT hl hc
    rw[Zi] at he
    split at he
    . rename_i ht
      obtain⟨c1,he⟩:=fR he
      obtain⟨c2,he⟩:=fR he
      obtain⟨c3,he⟩:=fR he
      obtain⟨_,h4,he⟩:=aD he
      simp only[M.ev,Zc] at he
      subst he
      have hx:=(hat l).1
      have hy:=(hat c).1
      rw[hl] at hx
      rw[hc] at hy
      obtain⟨hv,_⟩:=sE hx
      obtain⟨hw,_⟩:=sE hy
      refine oQ (r:=Instr.makeSlice t (a.eval l) (a.eval c)) ?_ hd (by simp only[execOp,hop])
      rw[hv,hw]
      exact aDL hE hO hS hT ht (oZ h4) (Ze c1) (Ze c2) (Ze c3)
    . cases he
  . cases he
 ·
  rename_i c hop
  exact aIV hE ⟨hd,φ,ψ,Av,hO,hS⟩ hop he
 . cases he
end
end Go.Aw
