/-
 New variables, structs, rows.
-/
import Derived.Test.YtdlkgkkfpfglbaaGreatAwP
import Derived.Laws.Tables
import Derived.Laws.MakeOwn
namespace Go.Aw
theorem xK{a:Array Value}{l:List Value}(h:a.toList=l):a=l.toArray:=by rw[<-h]
theorem yB{P:Program}{T:Ty}{t:TypeId}(h:pQ P T (.t t)=true)(ht:T.told=true):∃i z,P.info? t=some i/\i.size=T.sz/\i.bytes<=4096/\i.zero=some z/\z.cells=T.zcells.toArray:=by
 have hz:=aJB h ht default
 obtain⟨i,hi,hs,hb⟩:=tU (wH h)
 cases hzz:i.zero with
 |none=>simp[zeroValue,typeInfo,hi,hzz,unsupported] at hz
 |some z=>
  have:z=cS T.isSt T.zcells:=by simpa [zeroValue,typeInfo,hi,hzz] using hz
  refine⟨i,z,hi,hs,hb,hzz,?_⟩
  rw[this]
  exact xK (xO (pL T) (sL T (jO (w:=default) (Av:=fun _=>True) _ (fun _ _=>trivial) (aAM T ht))))
section
variable {cx:Cx} {φ:Nat->dJ} {ψ:Nat->Nat->Prop} {w:World} {Av:Nat->Prop} {σ:St} {tmps:Array Value} {E:eI} {e:uM}
theorem aLL{t:TypeId}{T:Ty}{n:Nat}(hE:aS cx.P E)(hO:iH cx φ ψ Av σ.objs w)(hS:kV cx.P φ Av σ tmps w)(hT:E.ty t=some T)(htd:T.told=true)(hn:n<10000000/\find σ.objs n=none):
 wK cx σ tmps (Instr.alloc t true (.tuple #[])) w ⟨.one (.bptr n [] T),[(n,.box T (rE T))],none⟩:=by
 obtain⟨h1,h2,h3,_⟩:=aB6 (P:=cx.P) (φ:=φ) (w:=w) (Av:=Av) (al:=bH σ.objs) T htd
 refine aH9 (t:=t) hO hS hn h2 h1 (fun q hq=>by rw[h3] at hq;cases hq) (tM _) ?_
 simp only[Instr.alloc,Sem.run_bind,aJB (hE.ty t T hT) htd,Result.andThen_ok,aBp,Sem.run_pure]
 rw[xK (xO (pL T) (sB _ h1))]
theorem aJ5{t:TypeId}{n:Nat}(hE:aS cx.P E)(hO:iH cx φ ψ Av σ.objs w)(hS:kV cx.P φ Av σ tmps w)(hT:E.ty t=some .op)(hn:n<10000000/\find σ.objs n=none):
 wK cx σ tmps (Instr.alloc t true (.tuple #[])) w ⟨.one (.bptr n [] .op),[(n,.box .op (rE .op))],none⟩:=by
 obtain⟨z,v,hz,hc,hv⟩:=aKM (hE.ty t .op hT) w
 refine aH9 (t:=t) (mid:=[v]) hO hS hn (c:=.undef) rfl ⟨v,rfl,hv⟩ (fun q hq=>by cases hq) (tM _) ?_
 simp only[Instr.alloc,Sem.run_bind,hz,Result.andThen_ok,aBp,Sem.run_pure,hc]
theorem aNA{t:TypeId}{T:Ty}{n:Nat}{c:CT}{x:Value}(hO:iH cx φ ψ Av σ.objs w)(hS:kV cx.P φ Av σ tmps w)(hx:(SV.one c).rep cx.P φ w Av (bH σ.objs) x)(hk:∀q∈c.named,keys σ.objs q)
 (hf:c.fits T=true) (hd:c.isDef=true) (hn:n<10000000/\find σ.objs n=none):
 wK cx σ tmps (Instr.box t x) w ⟨.one (.bptr n [] T),[(n,.box T c)],none⟩:=by
 obtain⟨hd1,hd2⟩:=yE hd
 obtain⟨vs,hc,rfl⟩:=hN hx hd1 hd2
 refine aH9 (t:=t) hO hS hn hf hc hk (tM _) ?_
 simp only[Instr.box,Sem.run_bind,Result.andThen_ok,aBp,Sem.run_pure]
 rw[yR hf hd1,xK (xO (cells_len hf hc) (sB _ hc))]
theorem aCn(off:Nat):(vs:List Value)->(k:Nat)->(cells:Array Value)->off+k+vs.length<=cells.size->
 (vs.zipIdx k).foldl (fun(cs:Array Value) (p:Value×Nat)=>cs.setIfInBounds (off+p.2) p.1) cells=(eS cells.toList (off+k) vs).toArray
 |[],k,cells,h=>by simp[eS]
 |v::vs,k,cells,h=>by
  simp only[Zg] at h
  simp only[List.zipIdx_cons,List.foldl_cons]
  rw[aCn off vs (k+1) _ (by simp;omega)]
  congr 1
  rw[Array.toList_setIfInBounds,<-Nat.add_assoc,aEr (by simp;omega)]
theorem aFD{place:Nat->Option (Nat×Nat)}{i off size:Nat}{v:Value}{cells:Array Value}{r:List (Nat×Value)}(hp:place i=some (off,size))(hv:v.cells.size=size)(hl:off+size<=cells.size):
 Instr.fill place cells ((i,v)::r)=Instr.fill place (eS cells.toList off v.cells.toList).toArray r:=by
 subst hv
 simp only[Instr.fill,hp]
 rw[if_neg (by simp;omega)]
 congr 1
 rw[<-Array.foldl_toList,Array.toList_zipIdx]
 exact aCn off v.cells.toList 0 cells (by simpa using hl)
def aEO(P:Program)(l:List Field):Option (List (Nat×Nat)):=l.mapM fun f=>(P.info? f.type).map fun i=>(f.offset,i.size)
theorem aFA{P:Program}:(T:Ty)->{l:List Field}->{off:Nat}->pQ P T (.fs l off)=true->∃ps,aEO P l=some ps/\∀k U,T.nth k=some U->ps[k]?=some (off+T.offn k,U.sz)
 |.pair a b,l,off,h=>by
  cases l with
  |nil=>simp[pQ] at h
  |cons f r=>
   simp only[pQ,Zb,Nat.beq_eq] at h
   obtain⟨ps,h1,h2⟩:=aFA b h.2
   obtain⟨i,hi,hs,_⟩:=tU (wH h.1.2)
   refine⟨(f.offset,i.size)::ps,?_,fun k U hk=>?_⟩
   . unfold aEO at h1 ⊢
     simp[List.mapM_cons,hi,h1]
   . cases k with
     |zero=>
      simp only[Ty.nth,Zc] at hk;subst hk
      simp[Ty.offn,hs,h.1.1.1]
     |succ k=>
      simp only[Ty.nth] at hk
      simp only[List.getElem?_cons_succ,Ty.offn,h2 k U hk]
      congr 2;omega
 |.unit,l,off,h=>by
  cases l with
  |nil=>exact⟨[],rfl,fun k U hk=>by cases hk⟩
  |cons f r=>simp[pQ] at h
 |.int _,_,_,h=>by cases h
 |.bool,_,_,h=>by cases h
 |.str,_,_,h=>by cases h
 |.op,_,_,h=>by cases h
 |.sl _ _,_,_,h=>by cases h
theorem aIx{P:Program}{al:Nat->Prop}{T:Ty}{ρ:Operand->Value}{sv:Operand->SV}{place:Nat->Option (Nat×Nat)}{ks:Nat->Prop}(hρ:∀x,(sv x).rep P φ w Av al (ρ x)/\∀q∈(sv x).named,ks q)
 (hp:∀k U,T.nth k=some U->place k=some (T.offn k,U.sz)):(l:List (Nat×Operand))->(c d:CT)->(cur:List Value)->nY sv T l c=some d->c.fits T=true->c.cells P φ w Av al cur->(∀q∈c.named,ks q)->
 ∃cur',Instr.fill place cur.toArray (l.map fun p=>(p.1,ρ p.2))=some cur'.toArray/\d.cells P φ w Av al cur'/\d.fits T=true/\∀q∈d.named,ks q
 |[],c,d,cur,h,hf,hc,hk=>by
  simp only[nY,Zc] at h;subst h
  exact⟨cur,rfl,hc,hf,hk⟩
 |(i,x)::l,c,d,cur,h,hf,hc,hk=>by
  simp only[nY] at h
  have hx:=hρ x
  split at h
  . rename_i v U hv hn
    rw[Zi] at h
    split at h
    . rename_i hvf
      simp only[Zb] at hvf
      rw[hv] at hx
      obtain⟨hd1,hd2⟩:=yE hvf.2
      obtain⟨vs,hvc,hve⟩:=hN hx.1 hd1 hd2
      have hvl:=cells_len hvf.1 hvc
      have hmk:(ρ x).cells.toList=vs:=by rw[hve,yR hvf.1 hd1];exact xO hvl (sB _ hvc)
      obtain⟨g1,g2,g3⟩:=aCf T c hn hf hc hvf.1 hvc
      have hcl:=cells_len hf hc
      have hle:=aCJ T hn
      simp only[List.map_cons]
      rw[aFD (hp i U hn) (by rw[<-Array.length_toList,hmk,hvl]) (by simp;omega),hmk]
      exact aIx hρ hp l _ d _ h g2 g1 (fun q hq=>(g3 q hq).elim (hk q) (hx.2 q))
    . cases h
  . cases h
theorem aLj{t:TypeId}{T:Ty}{l:Array (Nat×Operand)}{c:CT}{sv:Operand->SV}{ρ:Operand->Value}(hE:aS cx.P E)(hT:E.ty t=some T)(hst:T.isSt=true)(htd:T.told=true)
 (hρ:∀x,(sv x).rep cx.P φ w Av (bH σ.objs) (ρ x)/\∀q∈(sv x).named,keys σ.objs q) (hb:nY sv T l.toList (rE T)=some c) (he:(ok c).ev (find σ.objs)=some e):
 xI cx φ w Av σ.objs (Instr.build t (l.map fun(p:Nat×Operand)=>(p.1,ρ p.2))) e:=by
 have hty:=hE.ty t T hT
 obtain⟨h1,h2,h3,_⟩:=aB6 (P:=cx.P) (φ:=φ) (w:=w) (Av:=Av) (al:=bH σ.objs) T htd
 obtain⟨i,z,hi,hs,_,hz,hzc⟩:=yB hty htd
 have d:=fR hty
 cases T with
 |pair a b=>
  cases d with
  |st _ _ fs hu hfs _ _=>
  obtain⟨ps,hp1,hp2⟩:=aFA _ hfs
  obtain⟨cur,g1,g2,g3,g4⟩:=aIx (T:=.pair a b) (place:=(ps.toArray[·]?)) (ρ:=ρ) (ks:=keys σ.objs) hρ (fun k U hk=>by simpa using hp2 k U hk) l.toList _ c _ hb h2 h1 (fun q hq=>by rw[h3] at hq;cases hq)
  refine jA he (run_build (P:=cx.P) w t _ cur.toArray ?_) ?_ g4
  . unfold aEO at hp1
    simp only[Program.built,hi,hu,hz,hp1,hzc,Array.toList_map]
    exact g1
  . have:=sW g3 g2
    simp only[cS,Ty.isSt,if_true] at this
    exact this
 |unit=>simp[pQ] at hty
 |_=>cases hst
structure cL(w:World)(T:Ty)(xs:List T.D)(cs:List Value)(Fs:Nat->Nat->Prop):Prop where
 len:cs.length=xs.length*T.sz
 el:∀i (x:T.D),xs[i]?=some x->qW w T x (fX cs (i*T.sz) T.sz) (Fs i)
 dis:∀i j q,i<xs.length->j<xs.length->i≠j->Fs i q->¬Fs j q
theorem cL.one{T:Ty}{xs:List T.D}{cs:List Value}{Fs:Nat->Nat->Prop}(h:cL w T xs cs Fs):∀u∈cs,u.oneCell'=true:=by
 intro u hu
 obtain⟨j,hj,rfl⟩:=List.getElem_of_mem hu
 have hlen:=h.len
 have hz:0<T.sz:=by
  rcases Nat.eq_zero_or_pos T.sz with h0|h0
  . rw[h0,Nat.mul_zero] at hlen;omega
  . exact h0
 have hi:j/T.sz<xs.length:=by rw[Nat.div_lt_iff_lt_mul hz];omega
 have hx:=h.el (j/T.sz) _ (Zm hi)
 have hm:=Nat.mod_lt j hz
 have hdm:=Nat.div_add_mod j T.sz
 rw[Nat.mul_comm] at hdm
 have:(fX cs (j/T.sz*T.sz) T.sz)[j%T.sz]?=some cs[j]:=by
  rw[uE hm,hdm,Zm hj]
 exact sL T (jO (Av:=fun _=>True) T (fun _ _=>trivial) hx) _ (List.mem_of_getElem? this)
theorem cL.agr{w':World}{T:Ty}{xs:List T.D}{cs:List Value}{Fs:Nat->Nat->Prop}(h:cL w T xs cs Fs)(hw:∀i q,i<xs.length->Fs i q->w'.heap[q]?=w.heap[q]?):cL w' T xs cs Fs:=
 ⟨h.len,fun i x hx=>sO T (fun q hq=>hw i q (jD hx) hq) (h.el i x hx),h.dis⟩
theorem aHa(w:World)(need old:Nat)(e:TypeId)(h:need<=maxLen):grownCap w need old e<=maxLen:=by
 have hlt:=Nat.mod_lt (w.tape w.drawn (.appendCap need old e)) (show 0<2^63-need by simp only[maxLen] at h;omega)
 simp only[grownCap,Question.cut,maxLen] at h ⊢
 omega
theorem cL.list{t:TypeId}{T:Ty}{xs:List T.D}{Fs:Nat->Nat->Prop}{b off cap:Nat}{c:Array Value}{E:TypeId}{fr:Nat×Nat}(hb:w.heap[b]?=some (.cells c E fr))(hc:xs.length<=cap)(hm:aNh T cap fr)
 (hl:off+cap*T.sz<=c.size) (hf:xV fr off (cap*T.sz)) (h:cL w T xs (fX c.toList off (xs.length*T.sz)) Fs) (hn:∀i,i<xs.length->¬Fs i b):
 qW w (.sl t T) xs [.slice (some ⟨b,off,none⟩) xs.length cap] (fun q=>q=b\/∃i,i<xs.length/\Fs i q):=by
 refine .inr ⟨b,off,cap,c,E,fr,Fs,rfl,hb,hc,hm,hl,hf,fun _=>Iff.rfl,hn,h.dis,fun i x hx=>?_⟩
 have:=h.el i x hx
 have hmul:=dT (k:=T.sz) (jD hx)
 rwa [vJ hmul] at this
theorem cL.app{T:Ty}{xs ys:List T.D}{cs ds:List Value}{Fs Gs:Nat->Nat->Prop}(h:cL w T xs cs Fs)(g:cL w T ys ds Gs)(hd:∀i j q,i<xs.length->j<ys.length->Fs i q->¬Gs j q):
 cL w T (xs++ys) (cs++ds) (fun i q=>if i<xs.length then Fs i q else Gs (i-xs.length) q):=by
 have hcl:=h.len
 have hdl:=g.len
 refine⟨by rw[Zf,Zf,hcl,hdl,Nat.add_mul],fun i x hx=>?_,fun i j q hi hj hij hiq hjq=>?_⟩
 . by_cases hi:i<xs.length
   . rw[List.getElem?_append_left hi] at hx
     have hmul:=dT (k:=T.sz) hi
     have:fX (cs++ds) (i*T.sz) T.sz=fX cs (i*T.sz) T.sz:=by
      unfold fX
      rw[List.drop_append_of_le_length (by omega),List.take_append_of_le_length (by rw[Zs];omega)]
     rw[this]
     simp only[if_pos hi]
     exact h.el i x hx
   . rw[List.getElem?_append_right (by omega)] at hx
     have:fX (cs++ds) (i*T.sz) T.sz=fX ds ((i-xs.length)*T.sz) T.sz:=by
      unfold fX
      have hge:xs.length*T.sz<=i*T.sz:=Nat.mul_le_mul_right _ (by omega)
      rw[List.drop_append,List.drop_of_length_le (by omega),List.nil_append,hcl,Nat.sub_mul]
     rw[this]
     simp only[if_neg hi]
     exact g.el _ x hx
 . rw[Zf] at hi hj
   by_cases h1:i<xs.length<;>by_cases h2:j<xs.length
   . simp only[if_pos h1] at hiq;simp only[if_pos h2] at hjq;exact h.dis i j q h1 h2 hij hiq hjq
   . simp only[if_pos h1] at hiq;simp only[if_neg h2] at hjq;exact hd i _ q h1 (by omega) hiq hjq
   . simp only[if_neg h1] at hiq;simp only[if_pos h2] at hjq;exact hd j _ q h2 (by omega) hjq hiq
   . simp only[if_neg h1] at hiq;simp only[if_neg h2] at hjq;exact g.dis _ _ q (by omega) (by omega) (by omega) hiq hjq
theorem aEa{T:Ty}(ht:T.told=true)(n m:Nat)(hnm:n<=m):cL w T (List.replicate n T.zero) (fX (madeCells T.zcells.toArray (m*T.sz)).toList 0 (n*T.sz)) (fun _ _=>False):=by
 have hle:n*T.sz<=m*T.sz:=Nat.mul_le_mul_right _ hnm
 refine⟨by rw[oB (by simp[size_madeCells];omega),List.length_replicate],fun i x hx=>?_,fun _ _ _ _ _ _ h=>h.elim⟩
 have hi:=jD hx
 rw[List.length_replicate] at hi
 have hmul:=dT (k:=T.sz) hi
 rw[List.getElem?_replicate,if_pos hi,Zc] at hx
 subst hx
 rw[vJ hmul,Nat.zero_add]
 have:fX (madeCells T.zcells.toArray (m*T.sz)).toList (i*T.sz) T.sz=T.zcells:=by
  have hzl:=pL T
  apply List.ext_getElem?
  intro j
  by_cases hj:j<T.sz
  . have hget:∀k,k<m*T.sz->(madeCells T.zcells.toArray (m*T.sz)).toList[k]?=some (T.zcells.toArray[k%T.zcells.toArray.size]!):=by
     intro k hk
     rw[Array.getElem?_toList]
     simp only[madeCells,Array.getElem?_map]
     rw[Array.getElem?_eq_getElem (by simpa using hk)]
     simp only[Array.getElem_range,Option.map_some]
    rw[uE hj,hget _ (by omega)]
    simp only[List.size_toArray,hzl]
    have hz:0<T.sz:=by omega
    have:(i*T.sz+j)%T.sz=j:=by rw[Nat.mul_comm,Nat.mul_add_mod];exact Nat.mod_eq_of_lt hj
    rw[this,Zm (by omega)]
    congr 1
    rw[getElem!_pos _ j (by simp;omega)]
    simp
  . rw[List.getElem?_eq_none (by rw[oB (by simp[size_madeCells];omega)];omega),List.getElem?_eq_none (by omega)]
 rw[this]
 exact aDB (fun q=>Iff.rfl) T (aAM T ht)
theorem aGt{t t1:TypeId}{T:Ty}{n:Nat}{ka kb:IntKind}{a b:Int}(hE:aS cx.P E)(hO:iH cx φ ψ Av σ.objs w)(hS:kV cx.P φ Av σ tmps w)(hT:E.ty t=some (.sl t1 T))(htd:T.told=true)
 (hn:n<10000000/\find σ.objs n=none) (h0:0<=a) (h1:a<=b) (h2:b<=(lT:Int)):
 wK cx σ tmps (Instr.makeSlice t (.int ka a) (.int kb b)) w ⟨.one (.arr n),[(n,.arr t1 T (List.replicate (α:=T.D) a.toNat T.zero))],none⟩:=by
 cases fR (hE.ty _ _ hT);rename_i hu he
 obtain⟨i,z,hi,hs,hb,hz,hzc⟩:=yB he htd
 have hlim:(lT:Int)=4294967296:=rfl
 have hbytes:(i.bytes:Int)*b<=281474976710656:=by
  have h3:(i.bytes:Int)*b<=4096*b:=Int.mul_le_mul_of_nonneg_right (by omega) (by omega)
  omega
 have hr:=run_make (P:=cx.P) w t t1 i z hu hi hz ka kb a b h0 h1 hbytes (by omega)
 rw[hzc,hs] at hr
 have hlen:(List.replicate (α:=T.D) a.toNat T.zero).length=a.toNat:=List.length_replicate
 have hrow:cL (w.alloc (.cells (madeCells T.zcells.toArray (b.toNat * T.sz)) t1)) T (List.replicate (α:=T.D) a.toNat T.zero) (fX (madeCells T.zcells.toArray (b.toNat * T.sz)).toList 0 ((List.replicate (α:=T.D) a.toNat T.zero).length*T.sz)) (fun _ _=>False):=by
  rw[hlen];exact aEa htd _ _ (by omega)
 have hl:=cL.list (t:=t1) (off:=0) (cap:=b.toNat) (vU _ _) (by rw[hlen];omega) ⟨by unfold maxLen;omega,.inr rfl⟩ (by simp[size_madeCells]) (tM _) hrow (fun _ _ h=>h)
 rw[hlen] at hl
 refine aB4 (l:=[]) hO hS hn (by simp) (fun o ho=>by cases ho) (aBL _ _) (fun q hq _=>rB _ _ hq) (fun q hq=>?_) hl hr
 rcases hq with rfl|⟨_,_,h⟩
 . exact⟨by rw[rW];omega,.inl (Nat.le_refl _)⟩
 . exact h.elim
end
end Go.Aw
