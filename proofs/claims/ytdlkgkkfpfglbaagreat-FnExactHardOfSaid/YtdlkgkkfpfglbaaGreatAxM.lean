/-
 A law whose function is known answers true, and nothing turns: the row of the given statement.
-/
import Derived.Test.YtdlkgkkfpfglbaaGreatAxL
namespace Go.Aw
open Go.WideShapes Go.ChangeShapes Go.RowKit
def aAK(P:Program):List TypeId->List Ty->Bool
 |[],[]=>true
 |t::ts,T::Ts=>pQ P T (.t t)&&T.arg&&P.readableRec t&&Nat.blt t P.types.size&&aAK P ts Ts
 |_,_=>false
theorem aN7{P:Program}{W:World}{r:Reach}{base:Nat}{T:Ty}{t:TypeId}{v:Value}(ht:pQ P T (.t t)=true)(ha:T.arg=true)(h:Value.okWide P W r base t v):v=cS T.isSt v.cells.toList:=by
 cases T with
 |int k=>
  have hu:P.underlying t=some (.int k):=by
   simp only[pQ,Zb] at ht
   obtain⟨_,ht⟩:=ht
   split at ht
   . rename_i k' hk;rw[hk,Ze ht]
   . cases ht
  obtain⟨n,rfl⟩:=okWide_int hu h
  rfl
 |bool=>
  have hu:P.underlying t=some .bool:=by
   simp only[pQ,Zb] at ht
   obtain⟨_,ht⟩:=ht
   split at ht
   . rename_i hk;exact hk
   . cases ht
  obtain⟨n,rfl⟩:=okWide_bool hu h
  rfl
 |str=>
  have hu:P.underlying t=some .string:=by
   simp only[pQ,Zb] at ht
   obtain⟨_,ht⟩:=ht
   split at ht
   . rename_i hk;exact hk
   . cases ht
  obtain⟨n,rfl⟩:=okWide_string hu h
  rfl
 |op=>cases ha
 |unit=>cases ht
 |sl te e=>
  simp only[pQ,Zb] at ht
  obtain⟨⟨_,hu⟩,_⟩:=ht
  have hu:P.underlying t=some (.slice te):=by
   split at hu
   . rename_i u hk;rw[hk,Nat.eq_of_beq_eq_true hu]
   . cases hu
  obtain⟨a,l,c,rfl⟩:=okWide_slice hu h
  rfl
 |pair A B=>
  simp only[pQ,Zb] at ht
  obtain⟨_,hu⟩:=ht
  split at hu
  . rename_i fs hk
    simp only[Value.okWide,hk] at h
    obtain⟨cs,rfl,_⟩:=h
    rfl
  . cases hu
theorem aHW{H:Type}{enc:TypeId×Value->H}{P:Program}{W:World}{base:Nat}:(ts:List TypeId)->(Ts:List Ty)->{vs:List Value}->{ds:List (DataW H)}->{p:List MemPlace}->aAK P ts Ts=true->
 (∀(j:Nat) t v,ts[j]?=some t->vs[j]?=some v->Value.okWide P W .any base t v)->DataW.TrodAll enc P W 0 (fun _=>true) true ts vs ds p->
 ∃(xs:oC (Ts.map fun T=>PM.val T .f)) (Fs:List (Nat->Prop)),xQ P W (aHy W) (Ts.map fun T=>PM.val T .f) xs vs Fs/\∀F∈Fs,∀q,¬F q
 |[],[],vs,ds,p,_,_,h=>by
  obtain⟨rfl,_,_⟩:=trodAll_nil h
  exact⟨(),[],⟨rfl,rfl⟩,fun F hF=>by cases hF⟩
 |[],_::_,_,_,_,h,_,_=>by cases h
 |_::_,[],_,_,_,h,_,_=>by cases h
 |t::ts,T::Ts,vs,ds,p,hl,hv,h=>by
  simp only[aAK,Zb] at hl
  obtain⟨⟨⟨⟨l1,l2⟩,l3⟩,l4⟩,l5⟩:=hl
  obtain⟨v,vs',d,ds',p',q,rfl,rfl,rfl,⟨n,h1⟩,h2⟩:=trodAll_cons h
  obtain⟨x,hx⟩:=aDF T t n l1 l2 h1
  obtain⟨xs,Fs,g1,g2⟩:=aHW ts Ts l5 (fun j t v hj hv'=>hv (j+1) t v (by simpa using hj) (by simpa using hv')) h2
  have hval:=aN7 l1 l2 (hv 0 t v rfl rfl)
  refine⟨(x,xs),(fun _=>False)::Fs,⟨v,vs',_,Fs,rfl,rfl,⟨_,hval,hx,fun _ h=>h⟩,g1⟩,fun F hF q hq=>?_⟩
  rcases List.mem_cons.1 hF with rfl|hF
  . exact hq
  . exact g2 F hF q hq
theorem aHB{H:Type}{enc:TypeId×Value->H}{P:Program}{W W':World}(hl:laidOutB P=true)(hb:Below W.heap.size W W'):(ts:List TypeId)->(Ts:List Ty)->{vs:List Value}->{ds:List (DataW H)}->{p:List MemPlace}->
 aAK P ts Ts=true->DataW.TrodAll enc P W 0 (fun _=>true) true ts vs ds p->DataW.TrodAll enc P W' 0 (fun b=>decide (b<W.heap.size)) true ts vs ds p
 |[],[],vs,ds,p,_,h=>by
  obtain⟨rfl,rfl,rfl⟩:=trodAll_nil h
  exact trodAll_mk0
 |[],_::_,_,_,_,h,_=>by cases h
 |_::_,[],_,_,_,h,_=>by cases h
 |t::ts,T::Ts,vs,ds,p,hll,h=>by
  simp only[aAK,Zb,Nat.blt_eq] at hll
  obtain⟨⟨⟨⟨l1,l2⟩,l3⟩,l4⟩,l5⟩:=hll
  obtain⟨v,vs',d,ds',p',q,rfl,rfl,rfl,h1,h2⟩:=trodAll_cons h
  refine trodAll_cons_mk (Below.trod hl l3 l4 h1 hb ?_) (aHB hl hb ts Ts l5 h2)
  obtain⟨m,hm⟩:=h1
  exact DataW.trod_lt m _ _ _ hm
theorem aK9{P:Program}{f:FuncId}{Ts:List Ty}{g:oC (Ts.map fun T=>PM.val T .f)->yP (Ts.map fun T=>PM.val T .f)×Res [(Ty.bool,Md.o)]}
 (hs:bA P f ⟨Ts.map fun T=>PM.val T .f,[(.bool,.o)],fun _=>true,g⟩) (hg:∀xs,fW (Ts.map fun T=>PM.val T .f) xs->(g xs).2.1=true) {W:World} {xs:oC (Ts.map fun T=>PM.val T .f)} {vs:List Value} {Fs:List (Nat->Prop)}
 (hx:xQ P W (aHy W) (Ts.map fun T=>PM.val T .f) xs vs Fs) (hF:∀F∈Fs,∀q,¬F q):Calls P f vs.toArray W fun e W'=>e=.returned (.bool true)/\Below W.heap.size W W':=by
 have hno:∀q,¬kE Fs q:=fun q ⟨F,hF',hq⟩=>hF F hF' q hq
 have hap:oJ Fs:=by
  unfold oJ
  rw[List.pairwise_iff_forall_sublist]
  intro F G hs' q hq
  exact absurd hq (hF F (hs'.subset (by simp)) q)
 refine Calls.mono (hs W (aHy W) vs xs Fs hx hap (fun b hb=>⟨hb,hno b⟩) (fun q hq=>absurd hq (hno q)) rfl) fun e W' hp=>?_
 obtain⟨rv,Gs,Hs,Av2,he,_,hres,_,_,_,hfr,hgr⟩:=hp
 obtain⟨v,u,H',Ks,rfl,_,hone,hu,_⟩:=hres
 obtain⟨cs,rfl,hr⟩:=aCr rfl hone
 subst hu
 have hc:cs=[.bool (g xs).2.1]:=hr.1
 rw[hg xs (pR _ hx)] at hc
 subst hc
 refine⟨he,hgr.os,hgr.tape,hgr.output,hgr.size,fun b hb'=>hfr b hb' (hno b)⟩
theorem aJ7{C:Checked}{f:FuncId}{fn:Func}{s:ChangeSpec}{conds:List PathCond}{os:Os}(started:os.Started){H:Type}{enc:TypeId×Value->H}{Ts:List Ty}{tb:TypeId}
 {g:oC (Ts.map fun T=>PM.val T .f)->yP (Ts.map fun T=>PM.val T .f)×Res [(Ty.bool,Md.o)]}
 (own:ownKnob C.prog.godebug=none) (laid:laidOutB C.prog=true) (noInit:C.prog.inits.idxOf? f=none) (hfn:C.prog.funcs[f]?=some fn)
 (hs:bA C.prog f ⟨Ts.map fun T=>PM.val T .f,[(.bool,.o)],fun _=>true,g⟩) (hg:∀xs,fW (Ts.map fun T=>PM.val T .f) xs->(g xs).2.1=true)
 (htys:aAK C.prog fn.params.toList Ts=true) (hres:fn.resultTypes=#[tb]) (hub:C.prog.underlying tb=some .bool) (hvars:s.vars=[])
 (hsp:∀(H:Type) (ds:List (DataW H)),ds.length=Ts.length->(s.fn H ds).results=[.lit (.bool true)]/\(s.fn H ds).args=ds/\(s.fn H ds).vars=[])
 (witness:∃(w:World) (tape:Tape) (i:Input),w.os=os/\(w.forCall tape i).Shaped C.prog/\i.vars=[]/\Input.okWide C.prog (w.forCall tape i) .any w.heap.size f i/\
  s.pre6 enc C.prog fn conds false (w.forCall tape i).memory i.args/\({}:Assume).holds C.prog (lone (Frame.enter C.prog f i.args .normal) [] (w.forCall tape i))):
 ReturnsInHanded {} C os f .any (s.pre6 enc C.prog fn conds false) (s.post enc C.prog fn false true false false):=by
 have htb:∀(ts:List TypeId) (Ts:List Ty) (vs:List Value) (ds:List (DataW H)) (p:List MemPlace),aAK C.prog ts Ts=true->∀W:World,DataW.TrodAll enc C.prog W 0 (fun _=>true) true ts vs ds p->ds.length=Ts.length:=by
  intro ts
  induction ts with
  |nil=>
   intro Ts vs ds p h W h2
   obtain⟨_,rfl,_⟩:=trodAll_nil h2
   cases Ts with
   |nil=>rfl
   |cons _ _=>cases h
  |cons t ts ih=>
   intro Ts vs ds p h W h2
   obtain⟨v,vs',d,ds',p',q,_,rfl,_,_,h3⟩:=trodAll_cons h2
   cases Ts with
   |nil=>cases h
   |cons T Ts=>
    simp only[aAK,Zb] at h
    simp[ih Ts vs' ds' q h.2 W h3]
 refine returnsInHanded_of_change_sized (C:=C) own started noInit hfn witness ?_
 intro W base args ds gs before hval hW _ _ _
 have hW':=hW
 obtain⟨p,q,hA,hV,rfl,hfz,hnd⟩:=hW
 rw[hvars] at hV
 obtain⟨rfl,rfl⟩:=trodVars_none hV
 have hval':∀(j:Nat) t v,fn.params.toList[j]?=some t->args.toList[j]?=some v->Value.okWide C.prog W .any base t v:=by
  intro j t v hj hv
  exact hval j t v (by simpa using hj) (by simpa using hv)
 obtain⟨xs,Fs,hx,hF⟩:=aHW fn.params.toList Ts htys hval' hA
 have hc:=aK9 hs hg hx hF
 rw[Array.toArray_toList] at hc
 refine hc.mono fun e W' ⟨he,bel⟩=>?_
 subst he
 obtain⟨e1,e2,e3⟩:=hsp H ds (htb _ _ _ _ _ htys W hA)
 refine⟨_,rfl,ds,[],_,[],p,[],hW',?_,?_,?_,bel.frame _,fun h=>by cases h⟩
 . rw[List.append_nil,e1,hres]
   exact trodAll_mk1 ⟨1,by simp[DataW.trod,Value.cells,hub]⟩
 . rw[List.append_nil,e2]
   exact aHB laid bel _ Ts htys hA
 . rw[List.append_nil,e3,hvars]
   rfl
end Go.Aw
