/-
 New memory and stores.
-/
import Derived.Test.YtdlkgkkfpfglbaaGreatAwN
namespace Go.Aw
def fup{α:Type}(f:Nat->α)(n:Nat)(a:α):Nat->α:=fun o=>if o=n then a else f o
theorem fH{α:Type}{f:Nat->α}{n:Nat}{a:α}:fup f n a n=a:=by simp[fup]
theorem sU{α:Type}{f:Nat->α}{n o:Nat}{a:α}(h:o≠n):fup f n a o=f o:=by simp[fup,h]
def kv(e:uM):SV:=match e.kill with
 |none=>e.val
 |some o=>e.val.kill o
theorem rB(w:World)(o:Go.Obj){b:Nat}(h:b<w.heap.size):(w.alloc o).heap[b]?=w.heap[b]?:=by
 show(w.heap.push o)[b]?=_
 rw[Array.getElem?_push,if_neg (by omega)]
theorem vU(w:World)(o:Go.Obj):(w.alloc o).heap[w.heap.size]?=some o:=by
 show(w.heap.push o)[w.heap.size]?=_
 rw[Array.getElem?_push,if_pos rfl]
theorem aBL(w:World)(o:Go.Obj):vF w (w.alloc o):=⟨by show _<=(w.heap.push o).size;rw[Array.size_push];omega,rfl,rfl,rfl⟩
theorem aCG(w:World)(o:Go.Obj):vF w (w.drew.alloc o):=⟨by show _<=(w.heap.push o).size;rw[Array.size_push];omega,rfl,rfl,rfl⟩
theorem rW(w:World)(o:Go.Obj):(w.alloc o).heap.size=w.heap.size+1:=Array.size_push _
def wK(cx:Cx)(σ:St)(tmps:Array Value)(r:Sem Value)(w:World)(e:uM):Prop:=
 ∃v w',r.run cx.P w=.ok v w'/\∃φ ψ Av objs',(∀q,find (σ.apply none e).objs q=find objs' q)/\iH cx φ ψ Av objs' w'/\kV cx.P φ Av ⟨(σ.apply none e).slots,objs'⟩ tmps w'/\
  (kv e).rep cx.P φ w' Av (bH objs') v/\∀q∈(kv e).named,keys objs' q
theorem wK.fin{cx:Cx}{σ:St}{a:Act}{r:Sem Value}{w:World}{e:uM}(h:wK cx σ a.tmps r w e)(hd:a.defers=[])(dst:Option Tmp):
 ∃v w',r.run cx.P w=.ok v w'/\vG cx (σ.apply dst e) (a.put dst v) w':=by
 obtain⟨v,w',h1,φ,ψ,Av,objs',h2,h3,h4,h5,h6⟩:=h
 refine⟨v,w',h1,by cases dst<;>exact hd,φ,ψ,Av,?_⟩
 cases hk:e.kill with
 |none=>
  simp only[kv,hk] at h5 h6
  simp only[St.apply,hk] at h2 h4 ⊢
  refine⟨iH.congr h2 h3,?_⟩
  cases dst with
  |none=>exact kV.congr h2 h4
  |some d=>exact kV.congr h2 (h4.put d e.val v h5 h6)
 |some o=>
  simp only[kv,hk] at h5 h6
  simp only[St.apply,hk] at h2 h4 ⊢
  refine⟨iH.congr h2 h3,?_⟩
  cases dst with
  |none=>exact kV.congr h2 h4
  |some d=>
   simp only[aEt]
   exact kV.congr h2 (h4.put d (e.val.kill o) v h5 h6)
section
variable {cx:Cx} {φ:Nat->dJ} {ψ:Nat->Nat->Prop} {w:World} {Av:Nat->Prop} {σ:St} {tmps:Array Value} {E:eI} {e:uM}
theorem zA.does{r:Sem Value}(h:xI cx φ w Av σ.objs r e)(hO:iH cx φ ψ Av σ.objs w)(hS:kV cx.P φ Av σ tmps w):wK cx σ tmps r w e:=by
 obtain⟨⟨v,h1,h2⟩,h3,h4,h5⟩:=h
 refine⟨v,w,h1,φ,ψ,Av,σ.objs,fun q=>?_,hO,?_,?_,?_⟩
 . simp[St.apply,h3,h4,fE]
 . simp only[St.apply,h4];exact hS
 . simp only[kv,h4];exact h2
 . simp only[kv,h4];exact h5
theorem xZ{l:List Nat}{n:Nat}{X:Obj}(hn:n∉l)(o:Nat):find (gone l++[(n,X)]) o=if o∈l then some .dead else if o=n then some X else none:=by
 induction l with
 |nil=>
  simp only[gone,List.map_nil,List.nil_append,find,Zi,Nat.beq_eq,List.not_mem_nil,if_false]
  by_cases h:n=o
  . subst h;simp
  . rw[if_neg h,if_neg (fun e=>h e.symm)]
 |cons a r ih=>
  simp only[List.mem_cons,not_or] at hn
  simp only[gone,List.map_cons,List.cons_append,find,Zi,Nat.beq_eq] at ih ⊢
  by_cases h:a=o
  . subst h;simp
  . rw[if_neg h,ih hn.2]
    have:(o∈a::r)↔o∈r:=by rw[List.mem_cons];exact⟨fun h'=>h'.resolve_left (fun e=>h e.symm),.inr⟩
    simp only[this]
theorem yC{l:List Nat}{n:Nat}{X:Obj}(hl:l.Nodup)(hn:n∉l):((gone l++[(n,X)]).map (·.1)).Nodup:=by
 have:(gone l++[(n,X)]).map (·.1)=l++[n]:=by simp[gone,Function.comp_def]
 rw[this,List.nodup_append]
 exact⟨hl,by simp,fun a ha b hb=>by cases Zq.1 hb;rintro rfl;exact hn ha⟩
theorem aAp:(x:Obj)->∀q∈x.deep,q∈x.named
 |.box _ c=>nS c
 |.arr _ _ _=>fun _ h=>h
 |.rng _ _ _ _=>fun _ h=>h
 |.dead=>fun _ h=>h
theorem sE:(x:SV)->∀q∈x.deep,q∈x.named
 |.one c=>nS c
 |.tup c=>nS c
structure One(cx:Cx)(φ:Nat->dJ)(ψ:Nat->Nat->Prop)(Av:Nat->Prop)(objs:List (Nat×Obj))(slots:List SV)(w:World)(l:List Nat)(n:Nat)(X:Obj)(φ':Nat->dJ)(ψ':Nat->Nat->Prop)(w':World):Prop where
 nod:l.Nodup
 nin:n∉l
 arrs:aEF objs l
 hφ:∀o,o≠n->φ' o=φ o
 hψ:∀o,o≠n->ψ' o=ψ o
 hn:((find objs n).isSome=true\/10000000<=n)->φ' n=φ n
 hsz:vF w w'
 hw:∀b,b<w.heap.size->¬Of φ ψ objs (n::l) b->w'.heap[b]?=w.heap[b]?
 hblk:∀b,kL φ' ψ' n X b->b<w'.heap.size/\(w.heap.size<=b\/Of φ ψ objs (n::l) b)
 hnm:∀q∈X.named,q=n\/keys objs q
 hdeep:(find objs n).isSome=true->(∃t e xs,X=.arr t e xs)->(bH objs n/\oE φ w φ' w' n)\/((∀o x,find objs o=some x->n∉x.deep)/\∀(t:Nat) x,slots[t]?=some x->n∉x.deep)
theorem One.stepped{objs:List (Nat×Obj)}{slots:List SV}{l:List Nat}{n:Nat}{X:Obj}{φ':Nat->dJ}{ψ':Nat->Nat->Prop}{w':World}(hO:iH cx φ ψ Av objs w)
 (h:One cx φ ψ Av objs slots w l n X φ' ψ' w') (hrep:X.rep cx.P φ' ψ' w' Av (bH (fE objs (gone l++[(n,X)]))) n):
 sS cx φ ψ Av objs w φ' ψ' Av (fE objs (gone l++[(n,X)])) (gone l++[(n,X)]) w'/\
 ∀x:List Nat,(∀q∈x,keys objs q)->(n∈x->(find objs n).isSome=true->(∃t e xs,X=.arr t e xs)->(bH objs n/\oE φ w φ' w' n))->
  ∀q∈x,(find (gone l++[(n,X)]) q).isSome=true->bH (fE objs (gone l++[(n,X)])) q->bH objs q/\oE φ w φ' w' q:=by
 have hf:∀o,find (fE objs (gone l++[(n,X)])) o=(find (gone l++[(n,X)]) o).or (find objs o):=mU _ _ (yC h.nod h.nin)
 have hg:=xZ (X:=X) h.nin
 have hln:∀o∈l,o≠n:=fun o ho e=>h.nin (e▸ho)
 have hdp:∀x:List Nat,(∀q∈x,keys objs q)->(n∈x->(find objs n).isSome=true->(∃t e xs,X=.arr t e xs)->(bH objs n/\oE φ w φ' w' n))->
  ∀q∈x,(find (gone l++[(n,X)]) q).isSome=true->bH (fE objs (gone l++[(n,X)])) q->bH objs q/\oE φ w φ' w' q:=by
  intro x hx hn q hq hu ⟨t,e,xs,ha⟩
  rw[hf,hg] at ha
  rw[hg] at hu
  by_cases hql:q∈l
  . rw[if_pos hql] at ha;cases ha
  . rw[if_neg hql] at ha hu
    by_cases hqn:q=n
    . subst hqn
      rw[if_pos rfl] at ha
      simp only[Option.some_or,Zc] at ha
      exact hn hq (hx q hq) ⟨t,e,xs,ha⟩
    . rw[if_neg hqn] at hu;cases hu
 have hcase:∀o x,find (gone l++[(n,X)]) o=some x->(o∈l/\x=.dead)\/(o=n/\x=X):=by
  intro o x ho
  rw[hg] at ho
  by_cases hol:o∈l
  . rw[if_pos hol] at ho;cases ho;exact .inl ⟨hol,rfl⟩
  . rw[if_neg hol] at ho
    by_cases hon:o=n
    . rw[if_pos hon] at ho;cases ho;exact .inr ⟨hon,rfl⟩
    . rw[if_neg hon] at ho;cases ho
 have hsome:∀o,o∈n::l->(find (gone l++[(n,X)]) o).isSome=true:=by
  intro o ho
  rw[hg]
  by_cases hol:o∈l
  . rw[if_pos hol];rfl
  . rw[if_neg hol]
    rcases List.mem_cons.1 ho with ho|ho
    . rw[if_pos ho];rfl
    . exact absurd ho hol
 refine⟨⟨hf,fun o ho=>?_,fun o ho hn=>?_,fun _ hb=>hb,fun _ hb=>.inl hb,fun b hb hno=>?_,h.hsz,fun o x ho=>?_,fun o x ho b hb=>?_,fun o x o' x' ho ho' hne b hb hb'=>?_,fun o x ho q hq=>?_,fun o x ho hn=>?_⟩,hdp⟩
 . by_cases hon:o=n
   . subst hon;exact h.hn ho
   . exact h.hφ o hon
 . refine h.hψ o ?_
   rintro rfl
   have:=hsome o (by simp)
   rw[hn] at this;cases this
 . refine h.hw b hb ?_
   rintro⟨o,x,ho,hx,hbx⟩
   exact hno o x hx (hsome o ho) hbx
 . rcases hcase o x ho with⟨_,rfl⟩|⟨rfl,rfl⟩
   . trivial
   . exact hrep
 . rcases hcase o x ho with⟨_,rfl⟩|⟨rfl,rfl⟩
   . exact hb.elim
   . obtain⟨h1,h2⟩:=h.hblk b hb
     refine⟨h1,h2.imp id ?_⟩
     rintro⟨o',x',h3,h4,h5⟩
     exact⟨o',x',h4,hsome o' h3,h5⟩
 . rcases hcase o x ho with⟨_,rfl⟩|⟨rfl,rfl⟩
   . exact hb
   . rcases hcase o' x' ho' with⟨_,rfl⟩|⟨rfl,rfl⟩
     . exact hb'
     . exact hne rfl
 . rcases hcase o x ho with⟨_,rfl⟩|⟨rfl,rfl⟩
   . cases hq
   . rw[hf]
     rcases h.hnm q hq with hq|hq
     . have:=hsome q (by simp[hq])
       cases hz:find (gone l++[(o,x)]) q with
       |none=>rw[hz] at this;cases this
       |some z=>rfl
     . cases hz:find (gone l++[(o,x)]) q with
       |none=>exact hq
       |some z=>rfl
 . refine hdp x.deep (fun q hq=>hO.names o x ho q (aAp x q hq)) (fun hnx hns hX=>?_)
   rcases h.hdeep hns hX with h1|h1
   . exact h1
   . exact absurd hnx (h1.1 o x ho)
theorem One.does{l:List Nat}{n:Nat}{X:Obj}{φ':Nat->dJ}{ψ':Nat->Nat->Prop}{w':World}{r:Sem Value}{v:Value}(hO:iH cx φ ψ Av σ.objs w)(hS:kV cx.P φ Av σ tmps w)
 (h:One cx φ ψ Av σ.objs σ.slots w l n X φ' ψ' w') (hrep:X.rep cx.P φ' ψ' w' Av (bH (fE σ.objs (gone l++[(n,X)]))) n) (hr:r.run cx.P w=.ok v w')
 (hu:e.upd=gone l++[(n,X)]) (hk:e.kill=none) (hv:e.val.rep cx.P φ' w' Av (bH (fE σ.objs (gone l++[(n,X)]))) v) (hnv:∀q∈e.val.named,q=n\/keys σ.objs q):wK cx σ tmps r w e:=by
 obtain⟨h1,h2⟩:=h.stepped hO hrep
 have hf:∀q,keys σ.objs q\/q=n->keys (fE σ.objs (gone l++[(n,X)])) q:=by
  intro q hq
  unfold keys
  rw[h1.hf,xZ h.nin]
  by_cases hql:q∈l
  . rw[if_pos hql];rfl
  . rw[if_neg hql]
    by_cases hqn:q=n
    . rw[if_pos hqn];rfl
    . rw[if_neg hqn]
      exact(hq.resolve_right hqn)
 refine⟨v,w',hr,φ',ψ',Av,fE σ.objs (gone l++[(n,X)]),fun q=>?_,hO.step h1,?_,?_,?_⟩
 . simp only[St.apply,hk,hu]
 . simp only[St.apply,hk]
   refine kV.step hO h1 hS fun t x hx=>?_
   refine h2 x.deep (fun q hq=>hS.names t x hx q (sE x q hq)) (fun hnx hns hX=>?_)
   rcases h.hdeep hns hX with h3|h3
   . exact h3
   . exact absurd hnx (h3.2 t x hx)
 . simp only[kv,hk];exact hv
 . simp only[kv,hk];exact fun q hq=>hf q (hnv q hq).symm
theorem rZ{f:Nat->Option Obj}{n:Nat}{u:Unit}(h:(vY [n]).ev f=some u):n<10000000/\f n=none:=by
 simp only[vY,Zi,Nat.blt_eq] at h
 split at h
 . rename_i hn
   simp only[M.ev] at h
   cases hf:f n with
   |none=>exact⟨hn,rfl⟩
   |some x=>rw[hf] at h;cases h
 . cases h
def rP(i:dJ)(hdr:Value)(e:Ty):dJ:={i with hdr:=hdr,e:=e}
theorem aB4{l:List Nat}{n:Nat}{t:TypeId}{T:Ty}{xs:List T.D}{hdr:Value}{F:Nat->Prop}{w':World}{r:Sem Value}(hO:iH cx φ ψ Av σ.objs w)(hS:kV cx.P φ Av σ tmps w)
 (hn:n<10000000/\find σ.objs n=none) (hl:l.Nodup) (ha:aEF σ.objs l) (hsz:vF w w') (hw:∀b,b<w.heap.size->¬Of φ ψ σ.objs l b->w'.heap[b]?=w.heap[b]?)
 (hF:∀q,F q->q<w'.heap.size/\(w.heap.size<=q\/Of φ ψ σ.objs l q)) (hrd:qW w' (.sl t T) xs [hdr] F) (hr:r.run cx.P w=.ok hdr w'):
 wK cx σ tmps r w ⟨.one (.arr n),gone l++[(n,.arr t T xs)],none⟩:=by
 have hnl:n∉l:=by
  intro h
  obtain⟨t,e,xs,hx⟩:=ha n h
  rw[hn.2] at hx;cases hx
 have hone:hdr.oneCell'=true:=sL _ (jO (Av:=fun _=>True) _ (fun _ _=>trivial) hrd) _ (by simp)
 refine One.does (φ':=fup φ n (rP (φ n) hdr T)) (ψ':=fup ψ n F) hO hS
  ⟨hl,hnl,ha,fun o ho=>sU ho,fun o ho=>sU ho,fun h=>?_,hsz,fun b hb hno=>?_,fun b hb=>?_,(fun q hq=>by cases hq),fun h=>?_⟩ ?_ hr rfl rfl ?_ ?_
 . rcases h with h|h
   . rw[hn.2] at h;cases h
   . omega
 . refine hw b hb fun⟨o,x,ho,hx⟩=>hno ⟨o,x,Zo _ ho,hx⟩
 . simp only[kL,fH] at hb
   obtain⟨h1,h2⟩:=hF b hb
   refine⟨h1,h2.imp id ?_⟩
   rintro⟨o,x,ho,hx⟩
   exact⟨o,x,Zo _ ho,hx⟩
 . rw[hn.2] at h;cases h
 . exact⟨by simp[fH,rP],by simp only[fH,rP];exact hrd⟩
 . refine⟨[hdr],⟨by simp[fH,rP],by simpa [fH,rP] using hone⟩,rfl⟩
 . intro q hq
   simp only[SV.named,CT.named,Zq] at hq
   exact .inl hq
theorem aH9{n:Nat}{t:TypeId}{T:Ty}{c:CT}{mid:List Value}{r:Sem Value}{fr:Nat×Nat}(hO:iH cx φ ψ Av σ.objs w)(hS:kV cx.P φ Av σ tmps w)
 (hn:n<10000000/\find σ.objs n=none) (hf:c.fits T=true) (hc:c.cells cx.P φ w Av (bH σ.objs) mid) (hk:∀q∈c.named,keys σ.objs q) (hfr:xV fr 0 T.sz)
 (hr:r.run cx.P w=.ok (.pointer (some ⟨w.heap.size,0,none⟩)) (w.alloc (.cells mid.toArray t fr))):
 wK cx σ tmps r w ⟨.one (.bptr n [] T),[(n,.box T c)],none⟩:=by
 have hal:∀o,o≠n->(bH (fE σ.objs (gone []++[(n,.box T c)])) o↔bH σ.objs o):=by
  intro o ho
  unfold bH
  rw[mU _ _ (yC (by simp) (by simp)),xZ (by simp)]
  simp[ho]
 have hcn:∀q∈c.named,q≠n:=fun q hq e=>by
  have:=hk q hq
  rw[e] at this;unfold keys at this;rw[hn.2] at this;cases this
 have hsame:∀b,Av b->(w.alloc (.cells mid.toArray t fr)).heap[b]?=w.heap[b]?:=fun b hb=>rB _ _ (hO.av b hb).1
 let inf:dJ:=⟨w.heap.size,t,fr,[],[],T,(φ n).hdr,(φ n).e⟩
 refine One.does (l:=[]) (n:=n) (X:=.box T c) (φ':=fup φ n inf) (ψ':=ψ) hO hS
  ⟨by simp,by simp,(fun o ho=>by cases ho),fun o ho=>sU ho,fun _ _=>rfl,fun h=>?_,?_,fun b hb hno=>?_,fun b hb=>?_,fun q hq=>.inr (hk q hq),fun h=>?_⟩ ?_ hr rfl rfl ?_ ?_
 . rcases h with h|h
   . rw[hn.2] at h;cases h
   . omega
 . exact aBL _ _
 . exact rB _ _ hb
 . simp only[kL,fH,inf] at hb
   subst hb
   exact⟨by rw[rW];omega,.inl (Nat.le_refl _)⟩
 . rw[hn.2] at h;cases h
 . refine⟨by simp[fH,inf],hf,mid,?_,?_,?_⟩
   . refine lK (fun _ h=>h) hsame c (fun o ho=>sU (hcn o ho)) (fun o ho ha=>?_) hc
     have hon:=hcn o (nS c o ho)
     have ha':=(hal o hon).1 ha
     refine⟨ha',?_⟩
     obtain⟨t1,e1,xs,hx⟩:=ha'
     obtain⟨he,hrd⟩:=hO.reps o _ hx
     exact zQ he hrd (sU hon) (fun q hq=>rB _ _ (hO.own o _ hx q hq).1)
   . simp only[fH,inf,List.nil_append,List.append_nil]
     exact vU _ _
   . simp only[fH,inf];exact hfr
 . refine⟨_,⟨?_,rfl⟩,?_⟩
   . simp[fH,inf,Ty.atn]
   . simp[fH,inf,Ty.offp,cS,CT.isSt]
 . intro q hq
   simp only[SV.named,CT.named,Zq] at hq
   exact .inl hq
theorem aBp{P:Program}{t:TypeId}{v:Value}:(newVar t v).run P w=.ok ⟨w.heap.size,0,none⟩ (w.alloc (.cells v.cells t)):=by
 simp[newVar,newRow]
theorem tM(n:Nat):xV (0,0) 0 n:=fun j _ _ h=>by omega
end
end Go.Aw
