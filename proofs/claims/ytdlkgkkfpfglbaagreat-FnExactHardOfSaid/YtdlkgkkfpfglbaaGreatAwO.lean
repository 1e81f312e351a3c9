/-
 New memory and stores.
-/
import Derived.Test.YtdlkgkkfpfglbaaGreatAwN
namespace Go.Aw
def fup{α:Type}(f:Nat->α)(n:Nat)(a:α):Nat->α:=fun o=>if o=n then a else f o
theorem fQ{α:Type}{f:Nat->α}{n:Nat}{a:α}:fup f n a n=a:=by simp[fup]
theorem sW{α:Type}{f:Nat->α}{n o:Nat}{a:α}(h:o≠n):fup f n a o=f o:=by simp[fup,h]
def kv(e:uO):SV:=match e.kill with
 |none=>e.val
 |some o=>e.val.kill o
theorem qU(w:World)(o:Go.Obj){b:Nat}(h:b<w.heap.size):(w.alloc o).heap[b]?=w.heap[b]?:=by
 show(w.heap.push o)[b]?=_
 rw[Array.getElem?_push,if_neg (by omega)]
theorem vU(w:World)(o:Go.Obj):(w.alloc o).heap[w.heap.size]?=some o:=by
 show(w.heap.push o)[w.heap.size]?=_
 rw[Array.getElem?_push,if_pos rfl]
theorem aBq(w:World)(o:Go.Obj):vD w (w.alloc o):=⟨by show _<=(w.heap.push o).size;rw[Array.size_push];omega,rfl,rfl,rfl⟩
theorem aCT(w:World)(o:Go.Obj):vD w (w.drew.alloc o):=⟨by show _<=(w.heap.push o).size;rw[Array.size_push];omega,rfl,rfl,rfl⟩
theorem rY(w:World)(o:Go.Obj):(w.alloc o).heap.size=w.heap.size+1:=Array.size_push _
def wU(cx:Cx)(σ:St)(tmps:Array Value)(r:Sem Value)(w:World)(e:uO):Prop:=
 ∃v w',r.run cx.P w=.ok v w'/\∃φ ψ Av objs',(∀q,find (σ.apply none e).objs q=find objs' q)/\iK cx φ ψ Av objs' w'/\kS cx.P φ Av ⟨(σ.apply none e).slots,objs'⟩ tmps w'/\
  (kv e).rep cx.P φ w' Av (bH objs') v/\∀q∈(kv e).named,keys objs' q
theorem wU.fin{cx:Cx}{σ:St}{a:Act}{r:Sem Value}{w:World}{e:uO}(h:wU cx σ a.tmps r w e)(hd:a.defers=[])(dst:Option Tmp):
 ∃v w',r.run cx.P w=.ok v w'/\vQ cx (σ.apply dst e) (a.put dst v) w':=by
 obtain⟨v,w',h1,φ,ψ,Av,objs',h2,h3,h4,h5,h6⟩:=h
 refine⟨v,w',h1,by cases dst<;>exact hd,φ,ψ,Av,?_⟩
 cases hk:e.kill with
 |none=>
  simp only[kv,hk] at h5 h6
  simp only[St.apply,hk] at h2 h4 ⊢
  refine⟨iK.congr h2 h3,?_⟩
  cases dst with
  |none=>exact kS.congr h2 h4
  |some d=>exact kS.congr h2 (h4.put d e.val v h5 h6)
 |some o=>
  simp only[kv,hk] at h5 h6
  simp only[St.apply,hk] at h2 h4 ⊢
  refine⟨iK.congr h2 h3,?_⟩
  cases dst with
  |none=>exact kS.congr h2 h4
  |some d=>
   simp only[aE3]
   exact kS.congr h2 (h4.put d (e.val.kill o) v h5 h6)
section
variable {cx:Cx} {φ:Nat->dM} {ψ:Nat->Nat->Prop} {w:World} {Av:Nat->Prop} {σ:St} {tmps:Array Value} {E:eG} {e:uO}
theorem zG.does{r:Sem Value}(h:xI cx φ w Av σ.objs r e)(hO:iK cx φ ψ Av σ.objs w)(hS:kS cx.P φ Av σ tmps w):wU cx σ tmps r w e:=by
 obtain⟨⟨v,h1,h2⟩,h3,h4,h5⟩:=h
 refine⟨v,w,h1,φ,ψ,Av,σ.objs,fun q=>?_,hO,?_,?_,?_⟩
 . simp[St.apply,h3,h4,fG]
 . simp only[St.apply,h4];exact hS
 . simp only[kv,h4];exact h2
 . simp only[kv,h4];exact h5
theorem yR{l:List Nat}{n:Nat}{X:Obj}(hn:n∉l)(o:Nat):find (gone l++[(n,X)]) o=if o∈l then some .dead else if o=n then some X else none:=by
 induction l with
 |nil=>
  simp only[gone,List.map_nil,List.nil_append,find,Zi,Nat.beq_eq,List.not_mem_nil,if_false]
  by_cases h:n=o
  . subst h;simp
  . rw[if_neg h,if_neg (fun e=>h e.symm)]
 |cons a r ih=>
  simp only[List.mem_cons,not_or] at hn
  simp only[gone,List.map_cons,List.cons_append,find,Zi,Nat.beq_eq] at ih ⊢
  by_cases h:a=o
  . subst h;simp
  . rw[if_neg h,ih hn.2]
    have:(o∈a::r)↔o∈r:=by rw[List.mem_cons];exact⟨fun h'=>h'.resolve_left (fun e=>h e.symm),.inr⟩
    simp only[this]
theorem yL{l:List Nat}{n:Nat}{X:Obj}(hl:l.Nodup)(hn:n∉l):((gone l++[(n,X)]).map (·.1)).Nodup:=by
 have:(gone l++[(n,X)]).map (·.1)=l++[n]:=by simp[gone,Function.comp_def]
 rw[this,List.nodup_append]
 exact⟨hl,by simp,fun a ha b hb=>by cases Zq.1 hb;rintro rfl;exact hn ha⟩
theorem aAG:(x:Obj)->∀q∈x.deep,q∈x.named
 |.box _ c=>oB c
 |.arr _ _ _=>fun _ h=>h
 |.rng _ _ _ _=>fun _ h=>h
 |.dead=>fun _ h=>h
theorem sB:(x:SV)->∀q∈x.deep,q∈x.named
 |.one c=>oB c
 |.tup c=>oB c
structure One(cx:Cx)(φ:Nat->dM)(ψ:Nat->Nat->Prop)(Av:Nat->Prop)(objs:List (Nat×Obj))(slots:List SV)(w:World)(l:List Nat)(n:Nat)(X:Obj)(φ':Nat->dM)(ψ':Nat->Nat->Prop)(w':World):Prop where
 nod:l.Nodup
 nin:n∉l
 arrs:aE0 objs l
 hφ:∀o,o≠n->φ' o=φ o
 hψ:∀o,o≠n->ψ' o=ψ o
 hn:((find objs n).isSome=true\/10000000<=n)->φ' n=φ n
 hsz:vD w w'
 hw:∀b,b<w.heap.size->¬Of φ ψ objs (n::l) b->w'.heap[b]?=w.heap[b]?
 hblk:∀b,kL φ' ψ' n X b->b<w'.heap.size/\(w.heap.size<=b\/Of φ ψ objs (n::l) b)
 hnm:∀q∈X.named,q=n\/keys objs q
 hdeep:(find objs n).isSome=true->(∃t e xs,X=.arr t e xs)->(bH objs n/\oF φ w φ' w' n)\/((∀o x,find objs o=some x->n∉x.deep)/\∀(t:Nat) x,slots[t]?=some x->n∉x.deep)
theorem One.stepped{objs:List (Nat×Obj)}{slots:List SV}{l:List Nat}{n:Nat}{X:Obj}{φ':Nat->dM}{ψ':Nat->Nat->Prop}{w':World}(hO:iK cx φ ψ Av objs w)
 (h:One cx φ ψ Av objs slots w l n X φ' ψ' w') (hrep:X.rep cx.P φ' ψ' w' Av (bH (fG objs (gone l++[(n,X)]))) n):
 sY cx φ ψ Av objs w φ' ψ' Av (fG objs (gone l++[(n,X)])) (gone l++[(n,X)]) w'/\
 ∀x:List Nat,(∀q∈x,keys objs q)->(n∈x->(find objs n).isSome=true->(∃t e xs,X=.arr t e xs)->(bH objs n/\oF φ w φ' w' n))->
  ∀q∈x,(find (gone l++[(n,X)]) q).isSome=true->bH (fG objs (gone l++[(n,X)])) q->bH objs q/\oF φ w φ' w' q:=by
 have hf:∀o,find (fG objs (gone l++[(n,X)])) o=(find (gone l++[(n,X)]) o).or (find objs o):=mM _ _ (yL h.nod h.nin)
 have hg:=yR (X:=X) h.nin
 have hln:∀o∈l,o≠n:=fun o ho e=>h.nin (e▸ho)
 have hdp:∀x:List Nat,(∀q∈x,keys objs q)->(n∈x->(find objs n).isSome=true->(∃t e xs,X=.arr t e xs)->(bH objs n/\oF φ w φ' w' n))->
  ∀q∈x,(find (gone l++[(n,X)]) q).isSome=true->bH (fG objs (gone l++[(n,X)])) q->bH objs q/\oF φ w φ' w' q:=by
  intro x hx hn q hq hu ⟨t,e,xs,ha⟩
  rw[hf,hg] at ha
  rw[hg] at hu
  by_cases hql:q∈l
  . rw[if_pos hql] at ha;cases ha
  . rw[if_neg hql] at ha hu
    by_cases hqn:q=n
    . subst hqn
      rw[if_pos rfl] at ha
      simp only[Option.some_or,Zc] at ha
      exact hn hq (hx q hq) ⟨t,e,xs,ha⟩
    . rw[if_neg hqn] at hu;cases hu
 have hcase:∀o x,find (gone l++[(n,X)]) o=some x->(o∈l/\x=.dead)\/(o=n/\x=X):=by
  intro o x ho
  rw[hg] at ho
  by_cases hol:o∈l
  . rw[if_pos hol] at ho;cases ho;exact .inl ⟨hol,rfl⟩
  . rw[if_neg hol] at ho
    by_cases hon:o=n
    . rw[if_pos hon] at ho;cases ho;exact .inr ⟨hon,rfl⟩
    . rw[if_neg hon] at ho;cases ho
 have hsome:∀o,o∈n::l->(find (gone l++[(n,X)]) o).isSome=true:=by
  intro o ho
  rw[hg]
  by_cases hol:o∈l
  . rw[if_pos hol];rfl
  . rw[if_neg hol]
    rcases List.mem_cons.1 ho with ho|ho
    . rw[if_pos ho];rfl
    . exact absurd ho hol
 refine⟨⟨hf,fun o ho=>?_,fun o ho hn=>?_,fun _ hb=>hb,fun _ hb=>.inl hb,fun b hb hno=>?_,h.hsz,fun o x ho=>?_,fun o x ho b hb=>?_,fun o x o' x' ho ho' hne b hb hb'=>?_,fun o x ho q hq=>?_,fun o x ho hn=>?_⟩,hdp⟩
 . by_cases hon:o=n
   . subst hon;exact h.hn ho
   . exact h.hφ o hon
 . refine h.hψ o ?_
   rintro rfl
   have:=hsome o (by simp)
   rw[hn] at this;cases this
 . refine h.hw b hb ?_
   rintro⟨o,x,ho,hx,hbx⟩
   exact hno o x hx (hsome o ho) hbx
 . rcases hcase o x ho with⟨_,rfl⟩|⟨rfl,rfl⟩
   . trivial
   . exact hrep
 . rcases hcase o x ho with⟨_,rfl⟩|⟨rfl,rfl⟩
   . exact hb.elim
   . obtain⟨h1,h2⟩:=h.hblk b hb
     refine⟨h1,h2.imp id ?_⟩
     rintro⟨o',x',h3,h4,h5⟩
     exact⟨o',x',h4,hsome o' h3,h5⟩
 . rcases hcase o x ho with⟨_,rfl⟩|⟨rfl,rfl⟩
   . exact hb
   . rcases hcase o' x' ho' with⟨_,rfl⟩|⟨rfl,rfl⟩
     . exact hb'
     . exact hne rfl
 . rcases hcase o x ho with⟨_,rfl⟩|⟨rfl,rfl⟩
   . cases hq
   . rw[hf]
     rcases h.hnm q hq with hq|hq
     . have:=hsome q (by simp[hq])
       cases hz:find (gone l++[(o,x)]) q with
       |none=>rw[hz] at this;cases this
       |some z=>rfl
     . cases hz:find (gone l++[(o,x)]) q with
       |none=>exact hq
       |some z=>rfl
 . refine hdp x.deep (fun q hq=>hO.names o x ho q (aAG x q hq)) (fun hnx hns hX=>?_)
   rcases h.hdeep hns hX with h1|h1
   . exact h1
   . exact absurd hnx (h1.1 o x ho)
theorem One.does{l:List Nat}{n:Nat}{X:Obj}{φ':Nat->dM}{ψ':Nat->Nat->Prop}{w':World}{r:Sem Value}{v:Value}(hO:iK cx φ ψ Av σ.objs w)(hS:kS cx.P φ Av σ tmps w)
 (h:One cx φ ψ Av σ.objs σ.slots w l n X φ' ψ' w') (hrep:X.rep cx.P φ' ψ' w' Av (bH (fG σ.objs (gone l++[(n,X)]))) n) (hr:r.run cx.P w=.ok v w')
 (hu:e.upd=gone l++[(n,X)]) (hk:e.kill=none) (hv:e.val.rep cx.P φ' w' Av (bH (fG σ.objs (gone l++[(n,X)]))) v) (hnv:∀q∈e.val.named,q=n\/keys σ.objs q):wU cx σ tmps r w e:=by
 obtain⟨h1,h2⟩:=h.stepped hO hrep
 have hf:∀q,keys σ.objs q\/q=n->keys (fG σ.objs (gone l++[(n,X)])) q:=by
  intro q hq
  unfold keys
  rw[h1.hf,yR h.nin]
  by_cases hql:q∈l
  . rw[if_pos hql];rfl
  . rw[if_neg hql]
    by_cases hqn:q=n
    . rw[if_pos hqn];rfl
    . rw[if_neg hqn]
      exact(hq.resolve_right hqn)
 refine⟨v,w',hr,φ',ψ',Av,fG σ.objs (gone l++[(n,X)]),fun q=>?_,hO.step h1,?_,?_,?_⟩
 . simp only[St.apply,hk,hu]
 . simp only[St.apply,hk]
   refine kS.step hO h1 hS fun t x hx=>?_
   refine h2 x.deep (fun q hq=>hS.names t x hx q (sB x q hq)) (fun hnx hns hX=>?_)
   rcases h.hdeep hns hX with h3|h3
   . exact h3
   . exact absurd hnx (h3.2 t x hx)
 . simp only[kv,hk];exact hv
 . simp only[kv,hk];exact fun q hq=>hf q (hnv q hq).symm
theorem sF{f:Nat->Option Obj}{n:Nat}{u:Unit}(h:(wD [n]).ev f=some u):n<10000000/\f n=none:=by
 simp only[wD,Zi,Nat.blt_eq] at h
 split at h
 . rename_i hn
   simp only[M.ev] at h
   cases hf:f n with
   |none=>exact⟨hn,rfl⟩
   |some x=>rw[hf] at h;cases h
 . cases h
def rN(i:dM)(hdr:Value)(e:Ty):dM:={i with hdr:=hdr,e:=e}
theorem aB0{l:List Nat}{n:Nat}{t:TypeId}{T:Ty}{xs:List T.D}{hdr:Value}{F:Nat->Prop}{w':World}{r:Sem Value}(hO:iK cx φ ψ Av σ.objs w)(hS:kS cx.P φ Av σ tmps w)
 (hn:n<10000000/\find σ.objs n=none) (hl:l.Nodup) (ha:aE0 σ.objs l) (hsz:vD w w') (hw:∀b,b<w.heap.size->¬Of φ ψ σ.objs l b->w'.heap[b]?=w.heap[b]?)
 (hF:∀q,F q->q<w'.heap.size/\(w.heap.size<=q\/Of φ ψ σ.objs l q)) (hrd:qZ w' (.sl t T) xs [hdr] F) (hr:r.run cx.P w=.ok hdr w'):
 wU cx σ tmps r w ⟨.one (.arr n),gone l++[(n,.arr t T xs)],none⟩:=by
 have hnl:n∉l:=by
  intro h
  obtain⟨t,e,xs,hx⟩:=ha n h
  rw[hn.2] at hx;cases hx
 have hone:hdr.oneCell'=true:=sM _ (jO (Av:=fun _=>True) _ (fun _ _=>trivial) hrd) _ (by simp)
 refine One.does (φ':=fup φ n (rN (φ n) hdr T)) (ψ':=fup ψ n F) hO hS
  ⟨hl,hnl,ha,fun o ho=>sW ho,fun o ho=>sW ho,fun h=>?_,hsz,fun b hb hno=>?_,fun b hb=>?_,(fun q hq=>by cases hq),fun h=>?_⟩ ?_ hr rfl rfl ?_ ?_
 . rcases h with h|h
   . rw[hn.2] at h;cases h
   . omega
 . refine hw b hb fun⟨o,x,ho,hx⟩=>hno ⟨o,x,Zo _ ho,hx⟩
 . simp only[kL,fQ] at hb
   obtain⟨h1,h2⟩:=hF b hb
   refine⟨h1,h2.imp id ?_⟩
   rintro⟨o,x,ho,hx⟩
   exact⟨o,x,Zo _ ho,hx⟩
 . rw[hn.2] at h;cases h
 . exact⟨by simp[fQ,rN],by simp only[fQ,rN];exact hrd⟩
 . refine⟨[hdr],⟨by simp[fQ,rN],by simpa [fQ,rN] using hone⟩,rfl⟩
 . intro q hq
   simp only[SV.named,CT.named,Zq] at hq
   exact .inl hq
theorem aHb{n:Nat}{t:TypeId}{T:Ty}{c:CT}{mid:List Value}{r:Sem Value}{fr:Nat×Nat}(hO:iK cx φ ψ Av σ.objs w)(hS:kS cx.P φ Av σ tmps w)
 (hn:n<10000000/\find σ.objs n=none) (hf:c.fits T=true) (hc:c.cells cx.P φ w Av (bH σ.objs) mid) (hk:∀q∈c.named,keys σ.objs q) (hfr:xQ fr 0 T.sz)
 (hr:r.run cx.P w=.ok (.pointer (some ⟨w.heap.size,0,none⟩)) (w.alloc (.cells mid.toArray t fr))):
 wU cx σ tmps r w ⟨.one (.bptr n [] T),[(n,.box T c)],none⟩:=by
 have hal:∀o,o≠n->(bH (fG σ.objs (gone []++[(n,.box T c)])) o↔bH σ.objs o):=by
  intro o ho
  unfold bH
  rw[mM _ _ (yL (by simp) (by simp)),yR (by simp)]
  simp[ho]
 have hcn:∀q∈c.named,q≠n:=fun q hq e=>by
  have:=hk q hq
  rw[e] at this;unfold keys at this;rw[hn.2] at this;cases this
 have hsame:∀b,Av b->(w.alloc (.cells mid.toArray t fr)).heap[b]?=w.heap[b]?:=fun b hb=>qU _ _ (hO.av b hb).1
 let inf:dM:=⟨w.heap.size,t,fr,[],[],T,(φ n).hdr,(φ n).e⟩
 refine One.does (l:=[]) (n:=n) (X:=.box T c) (φ':=fup φ n inf) (ψ':=ψ) hO hS
  ⟨by simp,by simp,(fun o ho=>by cases ho),fun o ho=>sW ho,fun _ _=>rfl,fun h=>?_,?_,fun b hb hno=>?_,fun b hb=>?_,fun q hq=>.inr (hk q hq),fun h=>?_⟩ ?_ hr rfl rfl ?_ ?_
 . rcases h with h|h
   . rw[hn.2] at h;cases h
   . omega
 . exact aBq _ _
 . exact qU _ _ hb
 . simp only[kL,fQ,inf] at hb
   subst hb
   exact⟨by rw[rY];omega,.inl (Nat.le_refl _)⟩
 . rw[hn.2] at h;cases h
 . refine⟨by simp[fQ,inf],hf,mid,?_,?_,?_⟩
   . refine lM (fun _ h=>h) hsame c (fun o ho=>sW (hcn o ho)) (fun o ho ha=>?_) hc
     have hon:=hcn o (oB c o ho)
     have ha':=(hal o hon).1 ha
     refine⟨ha',?_⟩
     obtain⟨t1,e1,xs,hx⟩:=ha'
     obtain⟨he,hrd⟩:=hO.reps o _ hx
     exact aAa he hrd (sW hon) (fun q hq=>qU _ _ (hO.own o _ hx q hq).1)
   . simp only[fQ,inf,List.nil_append,List.append_nil]
     exact vU _ _
   . simp only[fQ,inf];exact hfr
 . refine⟨_,⟨?_,rfl⟩,?_⟩
   . simp[fQ,inf,Ty.atn]
   . simp[fQ,inf,Ty.offp,cS,CT.isSt]
 . intro q hq
   simp only[SV.named,CT.named,Zq] at hq
   exact .inl hq
theorem aBy{P:Program}{t:TypeId}{v:Value}:(newVar t v).run P w=.ok ⟨w.heap.size,0,none⟩ (w.alloc (.cells v.cells t)):=by
 simp[newVar,newRow]
theorem tY(n:Nat):xQ (0,0) 0 n:=fun j _ _ h=>by omega
end
end Go.Aw
