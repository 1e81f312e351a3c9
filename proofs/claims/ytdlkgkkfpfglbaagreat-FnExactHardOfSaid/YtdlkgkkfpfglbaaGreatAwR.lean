/-
 Rows that are built, and append.
-/
import Derived.Test.YtdlkgkkfpfglbaaGreatAwQ
import Derived.Laws.Append
namespace Go.Aw
open Go.IntKind (wrap)
open List (length)
section
variable {cx:Cx} {φ:Nat->dJ} {ψ:Nat->Nat->Prop} {w:World} {Av:Nat->Prop} {σ:St} {tmps:Array Value} {E:eI} {e:uM}
theorem cL.single{T:Ty}{x:T.D}{vs:List Value}{F:Nat->Prop}(h:qW w T x vs F):cL w T [x] vs (fun _=>F):=by
 have hl:=nL T h
 refine⟨by rw[hl];simp,fun i y hy=>?_,fun i j q hi hj hij=>?_⟩
 . cases i with
   |zero=>
    simp only[List.getElem?_cons_zero,Zc] at hy;subst hy
    rw[Nat.zero_mul,<-hl,aGj];exact h
   |succ i=>simp at hy
 . simp only[List.length_singleton] at hi hj;omega
theorem cL.nil{T:Ty}{Fs:Nat->Nat->Prop}:cL w T ([]:List T.D) [] Fs:=⟨by simp,fun i x hx=>by simp at hx,fun i j q hi=>by simp at hi⟩
theorem aJP{T:Ty}{ρ:Operand->Value}{sv:Operand->SV}(hO:iH cx φ ψ Av σ.objs w)(hρ:∀x,(sv x).rep cx.P φ w Av (bH σ.objs) (ρ x)/\∀q∈(sv x).named,keys σ.objs q):
 (l:List (Nat×Operand))->(k:Nat)->(cur:List Value)->{r:List T.D×List Nat}->(qT sv T l k).ev (find σ.objs)=some r->r.2.Nodup->cur.length=(k+l.length)*T.sz->
 ∃vs Fs,Instr.fill (fun i=>some (i*T.sz,T.sz)) cur.toArray (l.map fun p=>(p.1,ρ p.2))=some (cur.take (k*T.sz)++vs).toArray/\cL w T r.1 vs Fs/\(∀i q,Fs i q->Of φ ψ σ.objs r.2 q)/\aEF σ.objs r.2/\r.1.length=l.length
 |[],k,cur,r,h,hn,hl=>by
  simp only[qT,M.ev,Zc] at h
  subst h
  refine⟨[],fun _ _=>False,?_,cL.nil,fun _ _ h=>h.elim,(fun o ho=>by cases ho),rfl⟩
  simp only[List.map_nil,Instr.fill,List.append_nil]
  rw[List.take_of_length_le (by simp only[Zh,Nat.add_zero] at hl;omega)]
 |(i,x)::l,k,cur,r,h,hn,hl=>by
  simp only[qT,Zi,Nat.beq_eq] at h
  split at h
  . rename_i hik
    subst hik
    have hx:=hρ x
    split at h
    . rename_i c hc
      rw[hc] at hx
      obtain⟨a,ha,h⟩:=aG h
      obtain⟨b,hb,h⟩:=aG h
      simp only[M.ev,Zc] at h
      subst h
      simp only[List.nodup_append] at hn
      obtain⟨hd1,hd2⟩:=aAT ha
      obtain⟨vs,hvc,hve⟩:=hN hx.1 hd1 hd2
      obtain⟨F,g1,g2,g3,g4⟩:=uJ hO T c ha hn.1 hvc
      have hvl:=nL T g1
      have hone:=sL T (jO (Av:=fun _=>True) T (fun _ _=>trivial) g1)
      have hmk:(ρ x).cells.toList=vs:=by rw[hve,g4];exact xO hvl hone
      have hsz:i*T.sz+T.sz<=cur.length:=by rw[hl];exact dT (by simp)
      have hlen':(eS cur (i*T.sz) vs).length=(i+1+l.length)*T.sz:=by
       rw[wN (by rw[hvl];exact hsz),hl,Zg];congr 1;omega
      obtain⟨us,Gs,j1,j2,j3,j4,j5⟩:=aJP hO hρ l (i+1) (eS cur (i*T.sz) vs) hb hn.2.1 hlen'
      have htake:(eS cur (i*T.sz) vs).take ((i+1)*T.sz)=cur.take (i*T.sz)++vs:=by
       unfold eS
       rw[List.take_append_of_le_length (by rw[Zf,Zr,hvl,Nat.add_mul];omega),List.take_of_length_le]
       rw[Zf,Zr,hvl,Nat.add_mul];omega
      have hdis:∀q,F q->∀j,Gs j q->False:=by
       intro q hq j hj
       exact jR hO (l:=a.2) (r:=b.2) (by rw[List.nodup_append];exact hn) (g2 q hq) (j3 j q hj)
      refine⟨vs++us,fun i q=>if i<1 then F q else Gs (i-1) q,?_,?_,fun i q hiq=>?_,fun o ho=>?_,by simp[j5]⟩
      . simp only[List.map_cons]
        rw[aFD (off:=i*T.sz) (size:=T.sz) rfl (by rw[<-Array.length_toList,hmk,hvl]) (by simpa using hsz),hmk,<-Zk,<-htake]
        exact j1
      . exact cL.app (cL.single g1) j2 (fun i j q _ _ hi hj=>hdis q hi j hj)
      . rw[kG]
        by_cases hi:i<1
        . simp only[if_pos hi] at hiq;exact .inl (g2 q hiq)
        . simp only[if_neg hi] at hiq;exact .inr (j3 _ q hiq)
      . rcases Zp.1 ho with ho|ho
        . exact g3 o ho
        . exact j4 o ho
    . cases h
  . cases h
theorem aFl{t t1:TypeId}{T:Ty}{n len:Nat}{ps:Array (Nat×Operand)}{sv:Operand->SV}{ρ:Operand->Value}{r:List T.D×List Nat}(hE:aS cx.P E)(hO:iH cx φ ψ Av σ.objs w)(hS:kV cx.P φ Av σ tmps w)
 (hT:E.ty t=some (.sl t1 T)) (htd:T.told=true) (hρ:∀x,(sv x).rep cx.P φ w Av (bH σ.objs) (ρ x)/\∀q∈(sv x).named,keys σ.objs q) (hn:n<10000000/\find σ.objs n=none)
 (hlen:len=ps.toList.length) (h24:len*T.sz<=16777216) (hlim:len<=lT) (hr:(qT sv T ps.toList 0).ev (find σ.objs)=some r) (hnd:r.2.Nodup):
 wK cx σ tmps (Instr.buildSlice t len (ps.map fun(p:Nat×Operand)=>(p.1,ρ p.2))) w ⟨.one (.arr n),gone r.2++[(n,.arr t1 T r.1)],none⟩:=by
 subst hlen
 cases fR (hE.ty _ _ hT);rename_i hu he
 obtain⟨i,z,hi,hs,hb,hz,hzc⟩:=yB he htd
 obtain⟨vs,Fs,h1,h2,h3,h4,h5⟩:=aJP (T:=T) hO hρ ps.toList 0 (madeCells T.zcells.toArray (ps.toList.length*T.sz)).toList hr hnd (by rw[Array.length_toList,size_madeCells,Nat.zero_add])
 simp only[Nat.zero_mul,List.take_zero,List.nil_append,Array.toArray_toList] at h1
 have hvl:=h2.len
 rw[h5] at hvl
 have hrun:(Instr.buildSlice t ps.toList.length (ps.map fun(p:Nat×Operand)=>(p.1,ρ p.2))).run cx.P w=.ok (.slice (some ⟨w.heap.size,0,none⟩) ps.toList.length ps.toList.length) (w.alloc (.cells vs.toArray t1)):=by
  have h24':¬(ps.toList.length*T.sz>2^24):=by omega
  by_cases h0:ps.toList.length*T.sz=0
  . have h1':=h1
    have e0:madeCells T.zcells.toArray (ps.toList.length*T.sz)=(Array.range (ps.toList.length*T.sz)).map ((#[]:Array Value)[·%(#[]:Array Value).size]!):=by
     rw[h0];simp[madeCells]
    rw[e0] at h1'
    simp only[Instr.buildSlice,Sem.run_bind,run_underlying hu,Result.andThen_ok,xL he,if_neg h24',if_pos h0,Sem.run_pure,Array.toList_map,h1',newRow,run_newObj]
    rfl
  . have hzv:(zeroValue t1).run cx.P w=.ok z w:=by simp[zeroValue,typeInfo,hi,hz]
    simp only[madeCells] at h1
    simp only[Instr.buildSlice,Sem.run_bind,run_underlying hu,Result.andThen_ok,xL he,if_neg h24',if_neg h0,hzv,hzc,Sem.run_pure,Array.toList_map,h1,newRow,run_newObj]
    rfl
 have hrow:cL (w.alloc (.cells vs.toArray t1)) T r.1 (fX vs.toArray.toList 0 (r.1.length*T.sz)) Fs:=by
  rw[h5,<-hvl]
  simp only[aGj]
  refine h2.agr fun i q hi hq=>rB _ _ ?_
  obtain⟨o,x,_,hx,hq⟩:=h3 i q hq
  exact(hO.own o x hx q hq).1
 have hl:=cL.list (t:=t1) (off:=0) (cap:=r.1.length) (vU _ _) (Nat.le_refl _) ⟨by rw[h5];unfold maxLen;simp only[lT] at hlim;omega,.inr rfl⟩ (by rw[h5,<-hvl];simp) (tM _) hrow (fun i hi hq=>by
  obtain⟨o,x,_,hx,hq⟩:=h3 i _ hq
  exact absurd (hO.own o x hx _ hq).1 (by omega))
 rw[h5] at hl
 refine aB4 hO hS hn hnd h4 (aBL _ _) (fun q hq _=>rB _ _ hq) (fun q hq=>?_) hl hrun
 rcases hq with rfl|⟨i,_,hq⟩
 . exact⟨by rw[rW];omega,.inl (Nat.le_refl _)⟩
 . obtain⟨o,x,ho,hx,hq⟩:=h3 i q hq
   have:=(hO.own o x hx q hq).1
   exact⟨by rw[rW];omega,.inr ⟨o,x,ho,hx,hq⟩⟩
structure Src(P:Program)(w:World)(sz n:Nat)(x:Value)(news:List Value):Prop where
 len:∀w1,(Builtin.lenOf x).run P w1=.ok n w1
 get:∀w1:World,w1.heap=w.heap->(Builtin.firstCells sz n x).run P w1=.ok news.toArray w1
 hl:news.length=n*sz
theorem aGZ{P:Program}{w1:World}{a:Addr}:(loadCells a 0).run P w1=.ok #[] w1:=by simp[loadCells,loadCellsFrom]
theorem aFz{P:Program}{sz n cap:Nat}{b off:Nat}{l:List Value}(hb:blk w b=some l)(hl:off+n*sz<=l.length):Src P w sz n (.slice (some ⟨b,off,none⟩) n cap) (fX l off (n*sz)):=by
 refine⟨fun w1=>by simp[Builtin.lenOf],fun w1 hw=>?_,oB hl⟩
 have hb1:blk w1 b=some l:=by unfold blk at hb ⊢;rw[hw];exact hb
 simp only[Builtin.firstCells]
 exact aAH hb1 hl
theorem aEy{P:Program}{sz:Nat}{a:Option Addr}{cap:Nat}:Src P w sz 0 (.slice a 0 cap) []:=by
 refine⟨fun w1=>by simp[Builtin.lenOf],fun w1 hw=>?_,by simp⟩
 cases a with
 |none=>simp[Builtin.firstCells]
 |some a=>simp only[Builtin.firstCells,Nat.zero_mul];exact aGZ
theorem aMK{P:Program}{s:List UInt8}:Src P w 1 s.length (.string ⟨s.toArray⟩) (s.map fun b=>.int .u8 b.toNat):=by
 refine⟨fun w1=>by simp[Builtin.lenOf];rfl,fun w1 hw=>?_,by simp⟩
 simp only[Builtin.firstCells,aEZ,Sem.run_pure]
 simp[bE]
theorem aJL{s:List UInt8}:cL w (.int .u8) (fT s) (s.map fun b=>Value.int .u8 b.toNat) (fun _ _=>False):=by
 refine⟨by simp[fT,Ty.sz],fun i x hx=>?_,fun _ _ _ _ _ _ h=>h.elim⟩
 simp only[fT,List.getElem?_map,Option.map_eq_some_iff] at hx
 obtain⟨b,hb,rfl⟩:=hx
 have hlt:=jD hb
 have:fX (s.map fun b=>Value.int .u8 b.toNat) (i*(Ty.int .u8).sz) (Ty.int .u8).sz=[.int .u8 b.toNat]:=by
  unfold fX;simp only[Ty.sz,Nat.mul_one]
  rw[Zn (by simpa using hlt)]
  simp only[List.take_succ_cons,List.take_zero,List.getElem_map]
  rw[Zm hlt] at hb
  simp only[Zc] at hb
  rw[hb]
 refine⟨this,?_,fun _ h=>h⟩
 have:=b.toNat_lt
 constructor
 . show(0:Int)<=_;omega
 . show _<=(255:Int);omega
theorem aM6{P:Program}{t:TypeId}{T:Ty}{ys:List T.D}{cs:List Value}(hf:T.flat=true)(h:vK w Av (.sl t T) ys cs):∃v news,cs=[v]/\Src P w T.sz (length (α:=T.D) ys) v news/\cL w T ys news (fun _ _=>False):=by
 rcases h with⟨h1,h2⟩|⟨b,off,cap,sp,h1,h2,h3,h4⟩
 . have h2':ys=[]:=h2
   subst h2'
   exact⟨_,_,h1,aEy,cL.nil⟩
 . rcases h4 with h4|⟨rfl,h4,l,h5,h6,h7⟩
   . have h4':ys=[]:=h4
     subst h4'
     exact⟨_,_,h1,aEy,cL.nil⟩
   . refine⟨_,_,h1,aFz h5 h6,oB h6,fun i x hx=>?_,fun _ _ _ _ _ _ h=>h.elim⟩
     have hmul:=dT (k:=T.sz) (jD hx)
     rw[vJ hmul]
     exact aDB (fun _=>Iff.rfl) T (mP T hf (h7 i x hx))
theorem aJE{P:Program}{t:TypeId}{T:Ty}{ys:List T.D}{cs:List Value}{G:Nat->Prop}(h:qW w (.sl t T) ys cs G):∃v news Gs,cs=[v]/\Src P w T.sz (length (α:=T.D) ys) v news/\cL w T ys news Gs/\(∀i q,i<length (α:=T.D) ys->Gs i q->G q):=by
 rcases h with⟨h1,h2,_⟩|⟨b,off,cap,c,E,fr,Fs,h1,h2,h3,h4,h5,h6,h7,h8,h9,h10⟩
 . have h2':ys=[]:=h2
   subst h2'
   exact⟨_,_,fun _ _=>False,h1,aEy,cL.nil,fun _ _ _ h=>h.elim⟩
 . have hm:length (α:=T.D) ys*T.sz<=cap*T.sz:=Nat.mul_le_mul_right _ h3
   have hle:off+length (α:=T.D) ys*T.sz<=c.toList.length:=by rw[Array.length_toList (xs:=c)];omega
   refine⟨_,_,Fs,h1,aFz (pV h2) hle,⟨oB hle,fun i x hx=>?_,h9⟩,fun i q hi hq=>(h7 q).2 (.inr ⟨i,hi,hq⟩)⟩
   have hmul:=dT (k:=T.sz) (jD hx)
   rw[vJ hmul]
   exact h10 i x hx
theorem aJo{t u ty t1:TypeId}{T:Ty}{xs ys:List T.D}{hdr x:Value}{F:Nat->Prop}{news:List Value}{Gs:Nat->Nat->Prop}{P:Program}(hu:P.underlying t=some (.slice t1))(he:pQ P T (.t t1)=true)(htd:T.told=true)
 (hu2:P.underlying u=some .string\/∃v,P.underlying u=some (.slice v)) (h:qW w (.sl t1 T) xs [hdr] F) (hF:∀q,F q->q<w.heap.size) (hsrc:Src P w T.sz (length (α:=T.D) ys) x news)
 (hrow:cL w T ys news Gs) (hG:∀i q,i<length (α:=T.D) ys->Gs i q->q<w.heap.size/\¬F q) (hlim:length (α:=T.D) xs+length (α:=T.D) ys<=lT):
 ∃hdr' w' F',(Builtin.append_ #[t,u] ty #[hdr,x]).run P w=.ok hdr' w'/\qW w' (.sl t1 T) (xs++ys) [hdr'] F'/\vF w w'/\(∀b,b<w.heap.size->¬F b->w'.heap[b]?=w.heap[b]?)/\
  ∀q,F' q->q<w'.heap.size/\(w.heap.size<=q\/F q\/∃i,i<length (α:=T.D) ys/\Gs i q):=by
 obtain⟨i,z,hi,hs,hb,hzz,hzc⟩:=yB he htd
 obtain⟨v0,olds,Fs,hv0,hsrc0,hrow0,hF0⟩:=aJE (P:=P) h
 simp only[List.cons.injEq,and_true] at hv0
 subst hv0
 obtain⟨a,cap,h7,h8,_,h10⟩:=uB (jO (Av:=fun _=>True) _ (fun _ _=>trivial) h)
 simp only[List.cons.injEq,and_true] at h7
 subst h7
 have hdis:∀i j q,i<length (α:=T.D) xs->j<length (α:=T.D) ys->Fs i q->¬Gs j q:=fun i j q hi hj h1 h2=>(hG j q hj h2).2 (hF0 i q hi h1)
 have happ:=hrow0.app hrow hdis
 have hlim':length (α:=T.D) xs+length (α:=T.D) ys<=4294967296:=hlim
 have hz2:(match P.underlying u with|some (.int _)=>true|_=>false)=false:=by
  rcases hu2 with h|⟨v,h⟩<;>rw[h]
 have hlapp:(xs++ys).length=length (α:=T.D) xs+length (α:=T.D) ys:=Zf
 by_cases hroom:length (α:=T.D) xs+length (α:=T.D) ys<=cap
 ·
  rcases h with⟨h1,h2,h3⟩|⟨b,off,cap',c,EE,fr,Fs',h1,h2,h3,h4,h5,h6,h11,h12,h13,h14⟩
  . have h2':xs=[]:=h2
    subst h2'
    simp only[List.cons.injEq,Value.slice.injEq,and_true] at h1
    obtain⟨rfl,_,rfl⟩:=h1
    have hy0:length (α:=T.D) ys=0:=by simp only[Zh] at hroom;omega
    have hy:ys=[]:=List.eq_nil_of_length_eq_zero hy0
    subst hy
    refine⟨.slice none 0 0,w,fun _=>False,?_,.inl ⟨rfl,rfl,fun _ h=>h⟩,vF.rfl' _,fun _ _ _=>rfl,fun _ h=>h.elim⟩
    have hg0:(Builtin.firstCells T.sz 0 x).run P w=.ok news.toArray w:=hsrc.get w rfl
    rcases hu2 with h|⟨v,h⟩<;>simp[Builtin.append_,run_underlying hu,run_underlying h,sizeOf,typeInfo,hi,hs,hsrc.len,hg0]
  . simp only[List.cons.injEq,Value.slice.injEq,and_true] at h1
    obtain⟨rfl,_,rfl⟩:=h1
    have hFb:¬(∀i,i<length (α:=T.D) ys->False)\/True:=.inr trivial
    have hmul:length (α:=T.D) xs*T.sz+length (α:=T.D) ys*T.sz<=cap*T.sz:=by rw[<-Nat.add_mul];exact Nat.mul_le_mul_right _ hroom
    have hnl:=hsrc.hl
    have hbF:F b:=(h11 b).2 (.inl rfl)
    have hGb:∀i q,i<length (α:=T.D) ys->Gs i q->q≠b:=fun i q hi hq e=>(hG i q hi hq).2 (e▸hbF)
    obtain⟨w',r1,r2,r3,r4⟩:=vL (P:=P) (off:=off+length (α:=T.D) xs*T.sz) news 0 c w h2 (by omega) (tC h6 (by omega) (by omega)) hrow.one
    have r4s:=r4.size
    have hrun:(Builtin.append_ #[t,u] ty #[.slice (some ⟨b,off,none⟩) (length (α:=T.D) xs) cap,x]).run P w=.ok (.slice (some ⟨b,off,none⟩) (length (α:=T.D) xs+length (α:=T.D) ys) cap) w':=by
     have r1':(storeCells ⟨b,off+length (α:=T.D) xs*T.sz,none⟩ news).run P w=.ok () w':=r1
     rcases hu2 with h|⟨v,h⟩<;>simp[Builtin.append_,run_underlying hu,run_underlying h,sizeOf,typeInfo,hi,hs,hsrc.len,hsrc.get w rfl,hroom,aBV,r1']
    have hole:off+length (α:=T.D) xs*T.sz<=c.toList.length:=by rw[Array.length_toList (xs:=c)];omega
    have hcl:c.toList.length=c.size:=Array.length_toList
    have hrow':cL w' T (xs++ys) (fX (eS c.toList (off+length (α:=T.D) xs*T.sz) news).toArray.toList off ((xs++ys).length*T.sz)) (fun i q=>if i<length (α:=T.D) xs then Fs' i q else Gs (i-length (α:=T.D) xs) q):=by
     have e1:fX (eS c.toList (off+length (α:=T.D) xs*T.sz) news) off ((length (α:=T.D) xs+length (α:=T.D) ys)*T.sz)=fX c.toList off (length (α:=T.D) xs*T.sz)++news:=by
      rw[Nat.add_mul,rY,<-hnl,zV (by omega)]
      congr 1
      exact aB7 fun j hj1 hj2=>pA (by omega) (.inl hj2)
     have hr0:cL w T xs (fX c.toList off (length (α:=T.D) xs*T.sz)) Fs':=⟨oB hole,fun i y hy=>by
      have hmul:=dT (k:=T.sz) (jD hy)
      rw[vJ hmul];exact h14 i y hy,h13⟩
     have:=hr0.app hrow (fun i j q hi hj h1 h2=>(hG j q hj h2).2 ((h11 q).2 (.inr ⟨i,hi,h1⟩)))
     rw[hlapp]
     show cL w' T (xs++ys) (fX (eS c.toList (off+length (α:=T.D) xs*T.sz) news) off ((length (α:=T.D) xs+length (α:=T.D) ys)*T.sz)) _
     rw[e1]
     refine this.agr fun i q hi hq=>r3 q ?_
     by_cases hix:i<length (α:=T.D) xs
     . simp only[if_pos hix] at hq
       rintro rfl
       exact h12 i hix hq
     . simp only[if_neg hix] at hq
       rw[hlapp] at hi
       exact hGb _ q (by omega) hq
    have hl:=cL.list (t:=t1) (off:=off) (cap:=cap) r2 (by rw[hlapp];exact hroom) h4 (by simp only[List.size_toArray];rw[wN (by omega)];omega) h6 hrow' (fun i hi hq=>by
     by_cases hix:i<length (α:=T.D) xs
     . simp only[if_pos hix] at hq;exact h12 i hix hq
     . simp only[if_neg hix] at hq
       rw[hlapp] at hi
       exact hGb _ b (by omega) hq rfl)
    rw[hlapp] at hl
    refine⟨_,w',_,hrun,hl,r4.grew,fun q hq hno=>r3 q (by rintro rfl;exact hno hbF),fun q hq=>?_⟩
    rcases hq with rfl|⟨i,hi,hq⟩
    . exact⟨by have:=hF q hbF;omega,.inr (.inl hbF)⟩
    . by_cases hix:i<length (α:=T.D) xs
      . simp only[if_pos hix] at hq
        have hqF:=(h11 q).2 (.inr ⟨i,hix,hq⟩)
        exact⟨by have:=hF q hqF;omega,.inr (.inl hqF)⟩
      . simp only[if_neg hix] at hq
        exact⟨by have:=(hG _ q (by omega) hq).1;omega,.inr (.inr ⟨_,by omega,hq⟩)⟩
 ·
  have h63':¬(9223372036854775807<((length (α:=T.D) xs:Nat):Int)+((length (α:=T.D) ys:Nat):Int)):=by omega
  have h48':¬(281474976710656<Builtin.nextslicecap (length (α:=T.D) xs+length (α:=T.D) ys) cap*i.bytes):=by
   have hnb:(length (α:=T.D) xs+length (α:=T.D) ys)*i.bytes<=4294967296*4096:=Nat.mul_le_mul hlim' hb
   have:=growslice_fits (need:=length (α:=T.D) xs+length (α:=T.D) ys) (old:=cap) (bytes:=i.bytes) (by omega) (by omega)
   omega
  have hol:=hsrc0.hl
  have hnl:=hsrc.hl
  let nc:=grownCap w (length (α:=T.D) xs+length (α:=T.D) ys) cap t1
  have hnc:length (α:=T.D) xs+length (α:=T.D) ys<=nc:=by
   show _<=grownCap _ _ _ _
   simp only[grownCap,Question.cut];omega
  have hrun:(Builtin.append_ #[t,u] ty #[.slice a (length (α:=T.D) xs) cap,x]).run P w=.ok (.slice (some ⟨w.heap.size,0,none⟩) (length (α:=T.D) xs+length (α:=T.D) ys) nc)
   (w.drew.alloc (.cells (olds.toArray++(news.toArray++Builtin.zeroCells z.cells (nc-(length (α:=T.D) xs+length (α:=T.D) ys)))) t1)):=by
   rcases hu2 with h|⟨v,h⟩<;>
    simp[Builtin.append_,run_underlying hu,run_underlying h,sizeOf,typeInfo,zeroValue,hi,hs,hzz,hsrc.len,hroom,h63',h48',Question.forced,hsrc.get w.drew rfl,hsrc0.get w.drew rfl,newRow,grownCap,nc]
  have hzs:(Builtin.zeroCells z.cells (nc-(length (α:=T.D) xs+length (α:=T.D) ys))).size=(nc-(length (α:=T.D) xs+length (α:=T.D) ys))*T.sz:=by
   rw[hzc];simp[Builtin.zeroCells,pL]
  generalize Builtin.zeroCells z.cells (nc-(length (α:=T.D) xs+length (α:=T.D) ys))=zs at hrun hzs
  have hsz:(w.drew.alloc (.cells (olds.toArray++(news.toArray++zs)) t1)).heap.size=w.heap.size+1:=rW _ _
  have hgr:vF w (w.drew.alloc (.cells (olds.toArray++(news.toArray++zs)) t1)):=aCG _ _
  have hnew:(w.drew.alloc (.cells (olds.toArray++(news.toArray++zs)) t1)).heap[w.heap.size]?=some (.cells (olds.toArray++(news.toArray++zs)) t1 (0,0)):=vU _ _
  have hold:∀q,q<w.heap.size->(w.drew.alloc (.cells (olds.toArray++(news.toArray++zs)) t1)).heap[q]?=w.heap[q]?:=fun q hq=>rB w.drew _ hq
  generalize w.drew.alloc (.cells (olds.toArray++(news.toArray++zs)) t1)=w' at hrun hsz hgr hnew hold
  have hlt:∀i q,i<(xs++ys).length->(if i<length (α:=T.D) xs then Fs i q else Gs (i-length (α:=T.D) xs) q)->q<w.heap.size:=by
   intro i q hi hq
   by_cases hix:i<length (α:=T.D) xs
   . rw[if_pos hix] at hq;exact hF q (hF0 i q hix hq)
   . rw[if_neg hix] at hq;rw[hlapp] at hi;exact(hG _ q (by omega) hq).1
  have hrow':cL w' T (xs++ys) (fX (olds.toArray++(news.toArray++zs)).toList 0 ((xs++ys).length*T.sz)) (fun i q=>if i<length (α:=T.D) xs then Fs i q else Gs (i-length (α:=T.D) xs) q):=by
   have e1:fX (olds.toArray++(news.toArray++zs)).toList 0 ((xs++ys).length*T.sz)=olds++news:=by
    have e0:(olds.toArray++(news.toArray++zs)).toList=(olds++news)++zs.toList:=by simp
    unfold fX
    rw[List.drop_zero,hlapp,Nat.add_mul,<-hol,<-hnl,<-Zf,e0,List.take_left]
   rw[e1]
   exact happ.agr fun i q hi hq=>hold q (hlt i q hi hq)
  have hnsz:nc*T.sz=(length (α:=T.D) xs+length (α:=T.D) ys)*T.sz+(nc-(length (α:=T.D) xs+length (α:=T.D) ys))*T.sz:=by rw[<-Nat.add_mul];congr 1;omega
  have hl:=cL.list (t:=t1) (off:=0) (cap:=nc) hnew (by rw[hlapp];exact hnc) ⟨aHa _ _ _ _ (by unfold maxLen;omega),.inr rfl⟩ (by simp only[Array.size_append,List.size_toArray];rw[Nat.add_mul] at hnsz;omega) (tM _) hrow'
   (fun i hi hq=>absurd (hlt i _ hi hq) (by omega))
  rw[hlapp] at hl
  refine⟨_,w',_,hrun,hl,hgr,fun q hq _=>hold q hq,fun q hq=>?_⟩
  rcases hq with rfl|⟨i,hi,hq⟩
  . exact⟨by omega,.inl (Nat.le_refl _)⟩
  . have hq2:=hlt i q (by rw[hlapp];exact hi) hq
    refine⟨by omega,.inr ?_⟩
    by_cases hix:i<length (α:=T.D) xs
    . simp only[if_pos hix] at hq;exact .inl (hF0 i q hix hq)
    . simp only[if_neg hix] at hq;exact .inr ⟨_,by omega,hq⟩
end
end Go.Aw
