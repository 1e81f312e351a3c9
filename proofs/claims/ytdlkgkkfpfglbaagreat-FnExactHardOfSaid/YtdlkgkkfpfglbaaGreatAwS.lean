/-
 Append and []byte of a string, as the plain machine does them.
-/
import Derived.Test.YtdlkgkkfpfglbaaGreatAwR
namespace Go.Aw
open Go.IntKind (wrap)
open List (length)
section
variable {cx:Cx} {φ:Nat->dJ} {ψ:Nat->Nat->Prop} {w:World} {Av:Nat->Prop} {σ:St} {tmps:Array Value} {E:eI} {e:uM}
theorem aES{cs:List Value}(h:cs.length=1):∃v,cs=[v]:=by
 match cs,h with
 |[v],_=>exact⟨v,rfl⟩
theorem aKc{t:TypeId}{T:Ty}{d:CT}{y:Value}{b:List T.D×List Nat}(hO:iH cx φ ψ Av σ.objs w)(hy:(SV.one d).rep cx.P φ w Av (bH σ.objs) y)(h:(aIP t T d).ev (find σ.objs)=some b)(hn:b.2.Nodup):
 ∃news Gs,Src cx.P w T.sz (length (α:=T.D) b.1) y news/\cL w T b.1 news Gs/\(∀i q,i<length (α:=T.D) b.1->Gs i q->Of φ ψ σ.objs b.2 q)/\aEF σ.objs b.2:=by
 unfold aIP at h
 split at h
 . rename_i s
   simp only[M.ev,Zc] at h
   subst h
   obtain⟨rfl,_⟩:=aAA hy
   refine⟨_,fun _ _=>False,?_,aJL,fun _ _ _ h=>h.elim,(fun o ho=>by cases ho)⟩
   have hl:(fT s).length=length (α:=UInt8) s:=by simp[fT]
   show Src cx.P w (Ty.int .u8).sz (fT s).length _ _
   rw[hl];exact aMK
 . rw[Zi] at h
   split at h
   . rename_i hf
     obtain⟨ys,h1,h2⟩:=aG h
     simp only[M.ev,Zc] at h2
     subst h2
     obtain⟨d1,d2⟩:=uA h1
     obtain⟨cs,hc,rfl⟩:=hN hy d1 d2
     obtain⟨g1,g2⟩:=sQ hO _ d h1 hc
     obtain⟨v,news,rfl,k1,k2⟩:=aM6 (P:=cx.P) hf g1
     rw[g2]
     exact⟨news,_,k1,k2,fun _ _ _ h=>h.elim,(fun o ho=>by cases ho)⟩
   . obtain⟨d1,d2⟩:=aAT h
     obtain⟨cs,hc,rfl⟩:=hN hy d1 d2
     obtain⟨G,g1,g2,g3,g4⟩:=uJ hO _ d h hn hc
     obtain⟨v,news,Gs,rfl,k1,k2,k3⟩:=aJE (P:=cx.P) g1
     rw[g4]
     exact⟨news,Gs,k1,k2,fun i q hi hq=>g2 q (k3 i q hi hq),g3⟩
theorem aJ6{t u ty:TypeId}{s1 s2:SV}{x y:Value}{n:Nat}(hE:aS cx.P E)(hO:iH cx φ ψ Av σ.objs w)(hS:kV cx.P φ Av σ tmps w)(hx:s1.rep cx.P φ w Av (bH σ.objs) x)(hy:s2.rep cx.P φ w Av (bH σ.objs) y)
 (he:(aDv (E.ty t) (E.ty u) s1 s2 n).ev (find σ.objs)=some e):wK cx σ tmps (Builtin.append_ #[t,u] ty #[x,y]) w e:=by
 unfold aDv at he
 split at he
 . rename_i t1 T c d hT
   rw[Zi] at he
   split at he
   . rename_i hc
     simp only[Zb] at hc
     obtain⟨a,h1,he⟩:=aG he
     obtain⟨b,h2,he⟩:=aG he
     rw[Zi] at he
     split at he
     . rename_i hnd
       have hnd:=rA _ hnd
       obtain⟨hlim,he⟩:=gM he
       obtain⟨un,hfr,he⟩:=aG he
       simp only[M.ev,Zc] at he
       subst he
       have hlim:=Ze hlim
       have hfr:=rZ hfr
       have hnd':=hnd
       rw[List.nodup_append] at hnd'
       cases fR (hE.ty _ _ hT);rename_i hu hte
       have hu2:cx.P.underlying u=some .string\/∃v,cx.P.underlying u=some (.slice v):=by
        have hc1:=hc.1
        unfold aNn at hc1
        split at hc1
        . rename_i t2 e2 h3
          cases fR (hE.ty _ _ h3);rename_i hu3 _
          exact .inr ⟨_,hu3⟩
        . rename_i h3
          cases fR (hE.ty _ _ h3);rename_i hu3
          exact .inl hu3
        . cases hc1
       have h1':(nN (.sl t1 T) c).ev (find σ.objs)=some a:=by
        unfold aLa at h1
        split at h1
        . cases h1
        . exact h1
       obtain⟨d1,d2⟩:=aAT h1'
       obtain⟨cs,hcc,rfl⟩:=hN hx d1 d2
       obtain⟨F,g1,g2,g3,g4⟩:=uJ hO _ c h1' hnd'.1 hcc
       obtain⟨hdr,rfl⟩:=aES (nL _ g1)
       rw[g4]
       obtain⟨news,Gs,k1,k2,k3,k4⟩:=aKc hO hy h2 hnd'.2.1
       have hFs:∀q,F q->q<w.heap.size:=fun q hq=>by
        obtain⟨o,x,_,hx,hq⟩:=g2 q hq
        exact(hO.own o x hx q hq).1
       obtain⟨hdr',w',F',r1,r2,r3,r4,r5⟩:=aJo (ty:=ty) hu hte hc.2 hu2 g1 hFs k1 k2 (fun i q hi hq=>by
        have hof:=k3 i q hi hq
        refine⟨?_,fun hFq=>jR hO hnd (g2 q hFq) hof⟩
        obtain⟨o,x,_,hx,hq⟩:=hof
        exact(hO.own o x hx q hq).1) hlim
       have hgone:gone a.2++gone b.2++[(n,Obj.arr t1 T (List.append (α:=T.D) a.1 b.1))]=gone (a.2++b.2)++[(n,Obj.arr t1 T (a.1++b.1))]:=by
        unfold gone;rw[List.map_append];rfl
       rw[hgone]
       refine aB4 hO hS hfr hnd (fun o ho=>(Zp.1 ho).elim (g3 o) (k4 o)) r3 (fun q hq hno=>r4 q hq fun hFq=>hno (kG.2 (.inl (g2 q hFq)))) (fun q hq=>?_) r2 r1
       obtain⟨h5,h6⟩:=r5 q hq
       refine⟨h5,?_⟩
       rcases h6 with h6|h6|⟨i,hi,h6⟩
       . exact .inl h6
       . exact .inr (kG.2 (.inl (g2 q h6)))
       . exact .inr (kG.2 (.inr (k3 i q hi h6)))
     . cases he
   . cases he
 . cases he
theorem aFm{t u ty t1:TypeId}{T:Ty}{k k':IntKind}{a:Int}{n:Nat}(hE:aS cx.P E)(hO:iH cx φ ψ Av σ.objs w)(hS:kV cx.P φ Av σ tmps w)(hT:E.ty t=some (.sl t1 T))(htd:T.told=true)
 (hu2:cx.P.underlying u=some (.int k)) (hfr:n<10000000/\find σ.objs n=none) (h0:0<=a) (h1:a<=(lT:Int)):
 wK cx σ tmps (Builtin.append_ #[t,u] ty #[.slice none 0 0,.int k' a]) w ⟨.one (.arr n),[(n,.arr t1 T (List.replicate (α:=T.D) a.toNat T.zero))],none⟩:=by
 cases fR (hE.ty _ _ hT);rename_i hu hte
 have hlim:(lT:Int)=4294967296:=rfl
 obtain⟨i,z,hi,hs,hb,hzz,hzc⟩:=yB hte htd
 have hw:IntKind.i64.wrap a=a:=by simp[wrap,IntKind.signed,IntKind.bits];omega
 have hneg:¬a<0:=by omega
 have hmx:¬(281474976710656<a*(i.bytes:Int)):=by
  have h3:a*(i.bytes:Int)<=a*4096:=Int.mul_le_mul_of_nonneg_left (by omega) h0
  omega
 have hlen:(List.replicate (α:=T.D) a.toNat T.zero).length=a.toNat:=List.length_replicate
 have hnsz:(madeCells T.zcells.toArray (a.toNat * T.sz)).size=a.toNat * T.sz:=size_madeCells _ _
 by_cases hz:a=0
 . subst hz
   have hr:(Builtin.append_ #[t,u] ty #[.slice none 0 0,.int k' 0]).run cx.P w=.ok (.slice none 0 0) w:=by
    simp[Builtin.append_,run_underlying hu,run_underlying hu2,sizeOf,typeInfo,hi,hs,Go.asInt,Go.asIntOf,wrap,IntKind.signed,IntKind.bits]
   refine aB4 (l:=[]) (F:=fun _=>False) (w':=w) hO hS hfr (by simp) (fun o ho=>by cases ho) (vF.rfl' w) (fun q _ _=>rfl) (fun q hq=>hq.elim) ?_ hr
   exact .inl ⟨rfl,rfl,fun _ h=>h⟩
 . have hpos:0<a.toNat:=by omega
   let nc:=grownCap w a.toNat 0 t1
   have hnc:a.toNat<=nc:=by
    show _<=grownCap _ _ _ _
    simp only[grownCap,Question.cut];omega
   have h63':¬(9223372036854775807<((a.toNat:Nat):Int)):=by omega
   have h48':¬(281474976710656<Builtin.nextslicecap a.toNat 0*i.bytes):=by
    have hnb:a.toNat * i.bytes<=4294967296*4096:=Nat.mul_le_mul (by omega) hb
    have:=growslice_fits (need:=a.toNat) (old:=0) (bytes:=i.bytes) (by omega) (by omega)
    omega
   have hroom:¬a.toNat=0:=by omega
   have hle0:¬a<=0:=by omega
   have hmax:¬(9223372036854775807<max a 0):=by omega
   have hmade:Builtin.zeroCells T.zcells.toArray a.toNat=madeCells T.zcells.toArray (a.toNat * T.sz):=by
    simp[Builtin.zeroCells,madeCells,pL]
   have hrun:(Builtin.append_ #[t,u] ty #[.slice none 0 0,.int k' a]).run cx.P w=.ok (.slice (some ⟨w.heap.size,0,none⟩) a.toNat nc)
    (w.drew.alloc (.cells (madeCells T.zcells.toArray (a.toNat * T.sz)++Builtin.zeroCells z.cells (nc-a.toNat)) t1)):=by
    by_cases hsz:T.sz=0
    . have h4:madeCells T.zcells.toArray (a.toNat * T.sz)=#[]:=by rw[hsz,Nat.mul_zero];simp[madeCells]
      rw[h4]
      simp[Builtin.append_,run_underlying hu,run_underlying hu2,sizeOf,typeInfo,zeroValue,hi,hs,hzz,Go.asInt,Go.asIntOf,hw,hneg,hmx,hsz,hroom,hle0,hmax,h63',h48',Question.forced,newRow,grownCap,nc,Builtin.firstCells]
    . simp[Builtin.append_,run_underlying hu,run_underlying hu2,sizeOf,typeInfo,zeroValue,hi,hs,hzz,Go.asInt,Go.asIntOf,hw,hneg,hmx,hsz,hroom,hle0,hmax,h63',h48',Question.forced,newRow,grownCap,nc,Builtin.firstCells,hzc,hmade]
      intro h5
      have:=Nat.mul_pos hpos (Nat.pos_of_ne_zero hsz)
      omega
   have hzs:(Builtin.zeroCells z.cells (nc-a.toNat)).size=(nc-a.toNat)*T.sz:=by
    rw[hzc];simp[Builtin.zeroCells,pL]
   generalize Builtin.zeroCells z.cells (nc-a.toNat)=zs at hrun hzs
   have hgr:vF w (w.drew.alloc (.cells (madeCells T.zcells.toArray (a.toNat * T.sz)++zs) t1)):=aCG _ _
   have hsz:(w.drew.alloc (.cells (madeCells T.zcells.toArray (a.toNat * T.sz)++zs) t1)).heap.size=w.heap.size+1:=rW _ _
   have hnew:(w.drew.alloc (.cells (madeCells T.zcells.toArray (a.toNat * T.sz)++zs) t1)).heap[w.heap.size]?=some (.cells (madeCells T.zcells.toArray (a.toNat * T.sz)++zs) t1 (0,0)):=vU _ _
   have hold:∀q,q<w.heap.size->(w.drew.alloc (.cells (madeCells T.zcells.toArray (a.toNat * T.sz)++zs) t1)).heap[q]?=w.heap[q]?:=fun q hq=>rB w.drew _ hq
   generalize w.drew.alloc (.cells (madeCells T.zcells.toArray (a.toNat * T.sz)++zs) t1)=w' at hrun hgr hsz hnew hold
   have hrow:cL w' T (List.replicate (α:=T.D) a.toNat T.zero) (fX (madeCells T.zcells.toArray (a.toNat * T.sz)++zs).toList 0 ((List.replicate (α:=T.D) a.toNat T.zero).length*T.sz)) (fun _ _=>False):=by
    have e:fX (madeCells T.zcells.toArray (a.toNat * T.sz)++zs).toList 0 (a.toNat * T.sz)=fX (madeCells T.zcells.toArray (a.toNat * T.sz)).toList 0 (a.toNat * T.sz):=by
     unfold fX
     rw[Array.toList_append,List.drop_zero,List.drop_zero,List.take_append_of_le_length (by rw[Array.length_toList,hnsz];omega)]
    rw[hlen,e]
    exact aEa htd _ _ (Nat.le_refl _)
   have hcap:nc*T.sz=a.toNat * T.sz+(nc-a.toNat)*T.sz:=by rw[<-Nat.add_mul];congr 1;omega
   have hl:=cL.list (t:=t1) (off:=0) (cap:=nc) hnew (by rw[hlen];exact hnc) ⟨aHa _ _ _ _ (by unfold maxLen;omega),.inr rfl⟩ (by simp only[Array.size_append,hnsz];omega) (tM _) hrow (fun _ _ h=>h)
   rw[hlen] at hl
   refine aB4 (l:=[]) hO hS hfr (by simp) (fun o ho=>by cases ho) hgr (fun q hq _=>hold q hq) (fun q hq=>?_) hl hrun
   rcases hq with rfl|⟨_,_,h⟩
   . exact⟨by omega,.inl (Nat.le_refl _)⟩
   . exact h.elim
theorem aET{t u ty:TypeId}{s1 s2:SV}{x y:Value}{n:Nat}(hE:aS cx.P E)(hO:iH cx φ ψ Av σ.objs w)(hS:kV cx.P φ Av σ tmps w)(hx:s1.rep cx.P φ w Av (bH σ.objs) x)(hy:s2.rep cx.P φ w Av (bH σ.objs) y)
 (he:(xD (E.ty t) (E.ty u) s1 s2 n).ev (find σ.objs)=some e):wK cx σ tmps (Builtin.append_ #[t,u] ty #[x,y]) w e:=by
 unfold xD at he
 split at he
 . rename_i t1 T k k' a hT hU
   rw[Zi] at he
   split at he
   . rename_i htd
     obtain⟨h0,he⟩:=gM he
     obtain⟨h1,he⟩:=gM he
     obtain⟨un,hfr,he⟩:=aG he
     simp only[M.ev,Zc] at he
     subst he
     cases fR (hE.ty _ _ hU);rename_i hu2
     obtain⟨cs,rfl,rfl⟩:=hx
     obtain⟨cs2,⟨rfl,_⟩,rfl⟩:=hy
     simp only[cS,CT.isSt,Ty.isSt,Zj,if_false,List.getD_cons_zero]
     exact aFm hE hO hS hT htd hu2 (rZ hfr) (Ze h0) (Ze h1)
   . cases he
 . cases he
theorem aJj{P:Program}{w:World}{b n:Nat}{c:Array Value}{E:TypeId}(hb:w.heap[b]?=some (.cells c E (0,0))):
 ∃w',(markStringish ⟨b,n,none⟩).run P w=.ok () w'/\w'.heap[b]?=some (.cells c E (c.size,c.size+1))/\(∀q,q≠b->w'.heap[q]?=w.heap[q]?)/\aDt w w':=by
 have hs:w.shape? b=some (E,c.size):=by simp[World.shape?,hb]
 refine⟨w.freeze ⟨b,c.size,none⟩ 1,?_,?_,fun q hq=>?_,?_⟩
 . simp[markStringish,hs]
 . simp only[World.freeze,Nat.one_ne_zero,if_false]
   rw[Array.getElem?_modify,if_pos rfl,hb];rfl
 . simp only[World.freeze,Nat.one_ne_zero,if_false]
   rw[Array.getElem?_modify,if_neg (fun h=>hq h.symm)]
 . exact⟨by simp[World.freeze],by simp only[World.freeze];rfl,by simp only[World.freeze];rfl,by simp only[World.freeze];rfl⟩
theorem aLh{ts td t:TypeId}{s:List UInt8}{n:Nat}(hE:aS cx.P E)(hO:iH cx φ ψ Av σ.objs w)(hS:kV cx.P φ Av σ tmps w)(h1:E.ty ts=some .str)(h2:E.ty td=some (.sl t (.int .u8)))(hlim:s.length<=lT)
 (hn:n<10000000/\find σ.objs n=none):wK cx σ tmps (convert ts td (.string ⟨s.toArray⟩)) w ⟨.one (.arr n),[(n,.arr t (.int .u8) (fT s))],none⟩:=by
 cases fR (hE.ty _ _ h1);rename_i hu1
 cases fR (hE.ty _ _ h2);rename_i hu2 he
 cases fR he;rename_i hu3
 let nc:=grownCap w s.length 0 t
 have hnc:s.length<=nc:=by
  show _<=grownCap _ _ _ _
  simp only[grownCap,Question.cut];omega
 let ar:Array Value:=(s.map fun b=>Value.int .u8 b.toNat).toArray++Array.replicate (nc-s.length) (.int .u8 0)
 obtain⟨w',r1,r2,r3,r4⟩:=aJj (P:=cx.P) (w:=w.drew.alloc (.cells ar t)) (b:=w.heap.size) (n:=0) (c:=ar) (E:=t) (vU _ _)
 have hrun:(convert ts td (.string ⟨s.toArray⟩)).run cx.P w=.ok (.slice (some ⟨w.heap.size,0,none⟩) s.length nc) w':=by
  have hsz:(⟨s.toArray⟩:ByteArray).size=s.length:=rfl
  have r1':(markStringish ⟨w.heap.size,0,none⟩).run cx.P (w.drew.alloc (.cells ((s.map fun b=>Value.int .u8 b.toNat).toArray++Array.replicate (nc-s.length) (.int .u8 0)) t))=.ok () w':=r1
  simp[convert,run_underlying hu1,run_underlying hu2,run_underlying hu3,Conv.stringToBytes,hsz,newRow,Question.forced]
  have e:(Question.appendCap s.length 0 t).cut (w.tape w.drawn (Question.appendCap s.length 0 t))=nc:=rfl
  rw[e,r1']
  rfl
 have hl:(fT s).length=s.length:=by simp[fT]
 have hasz:ar.size=nc:=by simp[ar];omega
 have hrow:cL w' (.int .u8) (fT s) (fX ar.toList 0 ((fT s).length*(Ty.int .u8).sz)) (fun _ _=>False):=by
  have e1:fX ar.toList 0 ((fT s).length*(Ty.int .u8).sz)=s.map fun b=>Value.int .u8 b.toNat:=by
   have e0:ar.toList=(s.map fun b=>Value.int .u8 b.toNat)++List.replicate (nc-s.length) (.int .u8 0):=by simp[ar]
   have e2:(fT s).length*(Ty.int .u8).sz=(s.map fun b=>Value.int .u8 b.toNat).length:=by simp[fT,Ty.sz]
   rw[e0,e2]
   unfold fX
   rw[List.drop_zero,List.take_left]
  rw[e1];exact aJL
 have hli:=cL.list (t:=t) (off:=0) (cap:=nc) r2 (by rw[hl];exact hnc) ⟨aHa _ _ _ _ (by unfold maxLen;simp only[lT] at hlim;omega),.inl rfl⟩ (by simp only[Ty.sz];omega) (fun j _ hj=>by simp only[Ty.sz] at hj;omega) hrow (fun _ _ h=>h)
 rw[hl] at hli
 have r4s:=r4.size
 have hsz':(w.drew.alloc (.cells ar t)).heap.size=w.heap.size+1:=rW _ _
 refine aB4 (l:=[]) hO hS hn (by simp) (fun o ho=>by cases ho) ((aCG w _).trans r4.grew) (fun q hq _=>?_) (fun q hq=>?_) hli hrun
 . rw[r3 q (by omega)];exact rB w.drew _ hq
 . rcases hq with rfl|⟨_,_,h⟩
   . exact⟨by omega,.inl (Nat.le_refl _)⟩
   . exact h.elim
end
end Go.Aw
