/-
 How a function starts.
-/
import Derived.Test.YtdlkgkkfpfglbaaGreatAxC
namespace Go.Aw
def aC4(P:Program)(φ:Nat->dJ)(w:World)(Av:Nat->Prop)(objs:List (Nat×Obj)):List SV->List Value->Prop
 |[],vs=>vs=[]
 |s::cs,vs=>∃v r,vs=v::r/\(∀al,s.rep P φ w Av al v)/\(∀q∈s.named,q∈objs.map (·.1))/\s.deep=[]/\aC4 P φ w Av objs cs r
structure xH(P:Program)(w:World)(Av:Nat->Prop)(φ φ':Nat->dJ)(ψ ψ':Nat->Nat->Prop)(cs:List SV)(objs:List (Nat×Obj))(D:Nat->Prop)(vs:List Value)(F:Nat->Prop):Prop where
 hφ:∀o,¬D o->φ' o=φ o
 hψ:∀o,¬D o->ψ' o=ψ o
 keys:∀p∈objs,D p.1
 nod:(objs.map (·.1)).Nodup
 rep:∀p∈objs,∀al,p.2.rep P φ' ψ' w Av al p.1
 named:∀p∈objs,(∀q∈p.2.named,q∈objs.map (·.1))/\p.2.deep=[]
 fp:∀p∈objs,∀q,kL φ' ψ' p.1 p.2 q->F q
 dis:∀p∈objs,∀p'∈objs,p.1≠p'.1->∀q,kL φ' ψ' p.1 p.2 q->¬kL φ' ψ' p'.1 p'.2 q
 slots:aC4 P φ' w Av objs cs vs
section
variable {P:Program} {w:World} {Av:Nat->Prop}
theorem aCI{φ φ':Nat->dJ}{objs objs':List (Nat×Obj)}:(cs:List SV)->{vs:List Value}->aC4 P φ w Av objs cs vs->(∀q∈objs.map (·.1),φ' q=φ q)->(∀q∈objs.map (·.1),q∈objs'.map (·.1))->aC4 P φ' w Av objs' cs vs
 |[],vs,h,_,_=>h
 |s::cs,vs,h,hφ,hm=>by
  obtain⟨v,r,h1,h2,h3,h4,h5⟩:=h
  exact⟨v,r,h1,fun al=>aBS (al:=al) (al':=al) (fun _ h=>h) (fun _ _=>rfl) s (fun o ho=>hφ o (h3 o ho)) (fun o ho=>by rw[h4] at ho;cases ho) (h2 al),fun q hq=>hm q (h3 q hq),h4,aCI cs h5 hφ hm⟩
theorem aG5{φ:Nat->dJ}{objs:List (Nat×Obj)}{ds:List SV}{us:List Value}:(cs:List SV)->{vs:List Value}->aC4 P φ w Av objs cs vs->aC4 P φ w Av objs ds us->aC4 P φ w Av objs (cs++ds) (vs++us)
 |[],vs,h,h'=>by
  have:vs=[]:=h
  subst this;exact h'
 |s::cs,vs,h,h'=>by
  obtain⟨v,r,rfl,h2,h3,h4,h5⟩:=h
  exact⟨v,r++us,rfl,h2,h3,h4,aG5 cs h5 h'⟩
theorem xH.app{φ φ1 φ2:Nat->dJ}{ψ ψ1 ψ2:Nat->Nat->Prop}{cs ds:List SV}{l r:List (Nat×Obj)}{D1 D2 D:Nat->Prop}{vs us:List Value}{F1 F2 F:Nat->Prop}(h:xH P w Av φ φ1 ψ ψ1 cs l D1 vs F1)
 (g:xH P w Av φ1 φ2 ψ1 ψ2 ds r D2 us F2) (hD:∀o,D1 o->¬D2 o) (hd:∀q,F1 q->¬F2 q) (e1:∀o,D1 o->D o) (e2:∀o,D2 o->D o) (f1:∀q,F1 q->F q) (f2:∀q,F2 q->F q):
 xH P w Av φ φ2 ψ ψ2 (cs++ds) (l++r) D (vs++us) F:=by
 have hl:∀p∈l,φ2 p.1=φ1 p.1/\ψ2 p.1=ψ1 p.1:=fun p hp=>⟨g.hφ _ (hD _ (h.keys p hp)),g.hψ _ (hD _ (h.keys p hp))⟩
 have hlk:∀q∈l.map (·.1),φ2 q=φ1 q:=fun q hq=>by
  obtain⟨p,hp,rfl⟩:=List.mem_map.1 hq
  exact(hl p hp).1
 have eb:∀p∈l,∀q,kL φ2 ψ2 p.1 p.2 q↔kL φ1 ψ1 p.1 p.2 q:=fun p hp q=>by
  obtain⟨h3,h4⟩:=hl p hp
  cases p.2<;>simp only[kL,h3,h4]
 refine⟨fun o ho=>?_,fun o ho=>?_,fun p hp=>?_,?_,fun p hp al=>?_,fun p hp=>?_,fun p hp q hq=>?_,fun p hp p' hp' hne q hq hq'=>?_,?_⟩
 . rw[g.hφ o fun h=>ho (e2 o h),h.hφ o fun h=>ho (e1 o h)]
 . rw[g.hψ o fun h=>ho (e2 o h),h.hψ o fun h=>ho (e1 o h)]
 . exact(Zp.1 hp).elim (fun hp=>e1 _ (h.keys p hp)) (fun hp=>e2 _ (g.keys p hp))
 . rw[List.map_append,List.nodup_append]
   refine⟨h.nod,g.nod,fun a ha b hb=>?_⟩
   obtain⟨p,hp,rfl⟩:=List.mem_map.1 ha
   obtain⟨p',hp',rfl⟩:=List.mem_map.1 hb
   intro e
   exact hD _ (h.keys p hp) (e▸g.keys p' hp')
 . rcases Zp.1 hp with hp|hp
   . refine aEI (al:=al) (al':=al) (fun _ h=>h) (fun _ _=>rfl) (hl p hp).1 (hl p hp).2 p.2 (fun q hq=>hlk q ((h.named p hp).1 q hq)) (fun q hq=>by rw[(h.named p hp).2] at hq;cases hq) (fun _ _=>rfl) (h.rep p hp al)
   . exact g.rep p hp al
 . rw[List.map_append]
   rcases Zp.1 hp with hp|hp
   . exact⟨fun q hq=>Zp.2 (.inl ((h.named p hp).1 q hq)),(h.named p hp).2⟩
   . exact⟨fun q hq=>Zp.2 (.inr ((g.named p hp).1 q hq)),(g.named p hp).2⟩
 . rcases Zp.1 hp with hp|hp
   . exact f1 q (h.fp p hp q ((eb p hp q).1 hq))
   . exact f2 q (g.fp p hp q hq)
 . rcases Zp.1 hp with hp|hp<;>rcases Zp.1 hp' with hp'|hp'
   . exact h.dis p hp p' hp' hne q ((eb p hp q).1 hq) ((eb p' hp' q).1 hq')
   . exact hd q (h.fp p hp q ((eb p hp q).1 hq)) (g.fp p' hp' q hq')
   . exact hd q (h.fp p' hp' q ((eb p' hp' q).1 hq')) (g.fp p hp q hq)
   . exact g.dis p hp p' hp' hne q hq hq'
 . refine aG5 cs (aCI cs h.slots hlk fun q hq=>by rw[List.map_append];exact Zp.2 (.inl hq)) (aCI ds g.slots (fun _ _=>rfl) fun q hq=>by rw[List.map_append];exact Zp.2 (.inr hq))
theorem aEA{φ φ':Nat->dJ}{ψ ψ':Nat->Nat->Prop}{T:Ty}{c:CT}{l:List (Nat×Obj)}{n n':Nat}{cs:List Value}{F:Nat->Prop}{D:Nat->Prop}(m:aEi φ φ' ψ ψ' w l n n' F)(v:Vl P φ' w Av T c l cs)(hD:∀o,n<=o->o<n'->D o):
 xH P w Av φ φ' ψ ψ' [.one c] l D [cS T.isSt cs] F:=by
 have hb:∀p∈l,∀q,kL φ' ψ' p.1 p.2 q->ψ' p.1 q:=by
  intro p hp q hq
  obtain⟨t,e,xs,h1,_⟩:=m.arr p hp
  rw[h1] at hq;exact hq
 have hout:∀o,¬D o->o<n\/n'<=o:=by
  intro o ho
  rcases Nat.lt_or_ge o n with h|h
  . exact .inl h
  . rcases Nat.lt_or_ge o n' with h'|h'
    . exact absurd (hD o h h') ho
    . exact .inr h'
 refine⟨fun o ho=>m.hφ o (hout o ho),fun o ho=>m.hψ o (hout o ho),fun p hp=>hD _ (m.keys p hp).1 (m.keys p hp).2,m.nod,fun p hp al=>?_,fun p hp=>?_,fun p hp q hq=>m.fp p hp q (hb p hp q hq),
  fun p hp p' hp' hne q hq hq'=>m.dis p hp p' hp' hne q (hb p hp q hq) (hb p' hp' q hq'),⟨_,[],rfl,fun al=>?_,v.named,v.deep,rfl⟩⟩
 . obtain⟨t,e,xs,h1,h2,h3⟩:=m.arr p hp
   rw[h1];exact⟨h2,h3⟩
 . obtain⟨t,e,xs,h1,_⟩:=m.arr p hp
   rw[h1];exact⟨(fun q hq=>by cases hq),rfl⟩
 . have hd:=yE v.df
   have hc:=v.cells al
   show CT.val P φ' w Av al c (cS T.isSt cs)
   rw[<-v.st]
   cases c with
   |undef=>exact absurd rfl hd.1
   |skip=>exact absurd rfl hd.2
   |_=>exact⟨cs,hc,rfl⟩
theorem tA:(ps:List PM)->(xs:oC ps)->(n:Nat)->jW ps xs n=true->n<=20000000
 |[],_,n,h=>by simpa [jW] using h
 |.val T m::ps,x,n,h=>by
  simp only[jW,Zb] at h
  have:=tA ps x.2 (n+64) h.2;omega
 |.mut T::ps,x,n,h=>by
  simp only[jW,Zb] at h
  have:=tA ps x.2 (n+64) h.2;omega
 |.ref T m::ps,x,n,h=>by
  simp only[jW,Zb] at h
  have:=tA ps x.2 (n+64) h.2;omega
 |.fn A B::ps,x,n,h=>by
  simp only[jW] at h
  have:=tA ps x.2 (n+64) h;omega
 |.peek T::ps,x,n,h=>by
  simp only[jW] at h
  have:=tA ps x.2 (n+64) h;omega
 |.cell k T::ps,x,n,h=>by
  simp only[jW] at h
  have:=tA ps x (n+64) h;omega
 |.nil t e::ps,x,n,h=>by
  simp only[jW] at h
  have:=tA ps x (n+64) h;omega
def Rng(n o:Nat):Prop:=(n<=o/\o<20000000)\/(n+30000000<=o/\o<50000000)
def Hd(n o:Nat):Prop:=(n<=o/\o<n+64)\/(n+30000000<=o/\o<n+30000064)
theorem rU{φ φ1 φ2:Nat->dJ}{ψ ψ1 ψ2:Nat->Nat->Prop}{s:SV}{ds:List SV}{l r:List (Nat×Obj)}{n:Nat}{v:Value}{us:List Value}{F:Nat->Prop}{Fs:List (Nat->Prop)}(h:xH P w Av φ φ1 ψ ψ1 [s] l (Hd n) [v] F)
 (g:xH P w Av φ1 φ2 ψ1 ψ2 ds r (Rng (n+64)) us (kE Fs)) (hn:n+64<=20000000) (hn1:10000000<=n) (ha:∀G∈Fs,∀q,F q->¬G q):xH P w Av φ φ2 ψ ψ2 (s::ds) (l++r) (Rng n) (v::us) (kE (F::Fs)):=
 h.app g (fun o h1 h2=>by unfold Hd at h1;unfold Rng at h2;omega) (fun q hq ⟨G,hG,hq'⟩=>ha G hG q hq hq') (fun o h1=>by unfold Hd at h1;unfold Rng;omega) (fun o h1=>by unfold Rng at h1 ⊢;omega)
  (fun q hq=>cR.2 (.inl hq)) (fun q hq=>cR.2 (.inr hq))
def yN(P:Program)(w:World)(φ:Nat->dJ)(K:List Nat):(ps:List PM)->oC ps->Nat->List Value->Prop
 |[],_,_,_=>True
 |.val _ _::ps,x,n,vs=>yN P w φ K ps x.2 (n+64) vs.tail
 |.fn _ _::ps,x,n,vs=>yN P w φ K ps x.2 (n+64) vs.tail
 |.peek _::ps,x,n,vs=>yN P w φ K ps x.2 (n+64) vs.tail
 |.nil _ _::ps,x,n,vs=>yN P w φ K ps x (n+64) vs.tail
 |.cell _ _::ps,x,n,vs=>(n∈K/\(φ n).T=.op/\∃c,vs.head?=some (.pointer (some ⟨(φ n).b,(φ n).pre.length,none⟩))/\w.heap[(φ n).b]?=some (.cells c (φ n).E (φ n).fr)/\(φ n).pre=c.toList.take (φ n).pre.length/\
  (φ n).post=c.toList.drop ((φ n).pre.length+1)/\(φ n).pre.length+1<=c.toList.length)/\yN P w φ K ps x (n+64) vs.tail
 |.mut T::ps,x,n,vs=>(∃cs,vs.head?=some (cS T.isSt cs)/\cs.length=T.sz/\(∀al,(nH T x.1 (n+30000001)).c.cells P φ w qQ al cs)/\(nH T x.1 (n+30000001)).c.deep=[]/\
  ∀q∈(nH T x.1 (n+30000001)).c.named,q∈K/\n<=q)/\yN P w φ K ps x.2 (n+64) vs.tail
 |.ref T _::ps,x,n,vs=>(n∈K/\∃c,vs.head?=some (.pointer (some ⟨(φ n).b,(φ n).pre.length,none⟩))/\w.heap[(φ n).b]?=some (.cells c (φ n).E (φ n).fr)/\(φ n).pre=c.toList.take (φ n).pre.length/\
  (φ n).post=c.toList.drop ((φ n).pre.length+T.sz)/\(φ n).pre.length+T.sz<=c.toList.length)/\yN P w φ K ps x.2 (n+64) vs.tail
theorem mW{φ φ':Nat->dJ}{K K':List Nat}:(ps:List PM)->{xs:oC ps}->{n:Nat}->{vs:List Value}->yN P w φ K ps xs n vs->(∀o,n<=o->φ' o=φ o)->(∀o∈K,o∈K')->yN P w φ' K' ps xs n vs
 |[],_,n,vs,h,_,_=>trivial
 |.val _ _::ps,_,n,vs,h,hφ,hK=>mW ps h (fun o ho=>hφ o (by omega)) hK
 |.fn _ _::ps,_,n,vs,h,hφ,hK=>mW ps h (fun o ho=>hφ o (by omega)) hK
 |.peek _::ps,_,n,vs,h,hφ,hK=>mW ps h (fun o ho=>hφ o (by omega)) hK
 |.nil _ _::ps,_,n,vs,h,hφ,hK=>mW ps h (fun o ho=>hφ o (by omega)) hK
 |.cell _ _::ps,_,n,vs,h,hφ,hK=>by
  refine⟨?_,mW ps h.2 (fun o ho=>hφ o (by omega)) hK⟩
  rw[hφ n (Nat.le_refl n)]
  exact⟨hK _ h.1.1,h.1.2⟩
 |.mut T::ps,_,n,vs,h,hφ,hK=>by
  obtain⟨⟨cs,h1,h2,h3,h4,h5⟩,h6⟩:=h
  refine⟨⟨cs,h1,h2,fun al=>?_,h4,fun q hq=>⟨hK q (h5 q hq).1,(h5 q hq).2⟩⟩,mW ps h6 (fun o ho=>hφ o (by omega)) hK⟩
  exact lK (al:=al) (al':=al) (fun _ h=>h) (fun _ _=>rfl) _ (fun o ho=>hφ o (h5 o ho).2) (fun o ho=>by rw[h4] at ho;cases ho) (h3 al)
 |.ref T _::ps,_,n,vs,h,hφ,hK=>by
  refine⟨?_,mW ps h.2 (fun o ho=>hφ o (by omega)) hK⟩
  rw[hφ n (Nat.le_refl n)]
  exact⟨hK _ h.1.1,h.1.2⟩
theorem qV:(ps:List PM)->(xs:oC ps)->(n:Nat)->{vs:List Value}->{Fs:List (Nat->Prop)}->xQ P w Av ps xs vs Fs->oJ Fs->jW ps xs n=true->10000000<=n->(φ:Nat->dJ)->(ψ:Nat->Nat->Prop)->
 ∃φ' ψ',xH P w Av φ φ' ψ ψ' (dD ps xs n).cs (dD ps xs n).objs (Rng n) vs (kE Fs)/\yN P w φ' ((dD ps xs n).objs.map (·.1)) ps xs n vs
 |[],xs,n,vs,Fs,h,_,hf,_,φ,ψ=>by
  obtain⟨rfl,rfl⟩:=h
  exact⟨φ,ψ,⟨fun _ _=>rfl,fun _ _=>rfl,(fun p hp=>by cases hp),(by simp[dD]),(fun p hp=>by cases hp),(fun p hp=>by cases hp),(fun p hp=>by cases hp),(fun p hp=>by cases hp),rfl⟩,trivial⟩
 |.val T m::ps,xs,n,vs,Fs,h,ha,hf,hn,φ,ψ=>by
  obtain⟨v,us,F,Gs,rfl,rfl,⟨cs,rfl,h1⟩,h2⟩:=h
  unfold oJ at ha
  rw[List.pairwise_cons] at ha
  simp only[jW,Zb,Nat.ble_eq] at hf
  have hle:=tA ps xs.2 (n+64) hf.2
  obtain⟨φ1,ψ1,m1,v1⟩:=zI (P:=P) m T xs.1 (n+1) φ ψ h1
  obtain⟨φ2,ψ2,s2,kn⟩:=qV ps xs.2 (n+64) h2 ha.2 hf.2 (by omega) φ1 ψ1
  exact⟨φ2,ψ2,rU (aEA m1 v1 fun o h3 h4=>.inl (by omega)) s2 hle hn ha.1,mW ps kn (fun _ _=>rfl) (fun o ho=>by show o∈List.map (fun p:Nat×Obj=>p.1) (_++_);rw[List.map_append];exact Zp.2 (.inr ho))⟩
 |.mut T::ps,xs,n,vs,Fs,h,ha,hf,hn,φ,ψ=>by
  obtain⟨v,us,F,Gs,rfl,rfl,⟨cs,rfl,h1⟩,h2⟩:=h
  unfold oJ at ha
  rw[List.pairwise_cons] at ha
  simp only[jW,Zb,Nat.ble_eq] at hf
  have hle:=tA ps xs.2 (n+64) hf.2
  obtain⟨φ1,ψ1,m1,v1⟩:=yY (P:=P) (Av:=qQ) T xs.1 (n+30000001) φ ψ h1
  obtain⟨φ2,ψ2,s2,kn⟩:=qV ps xs.2 (n+64) h2 ha.2 hf.2 (by omega) φ1 ψ1
  have v1':Vl P φ1 w Av T (nH T xs.1 (n+30000001)).c (nH T xs.1 (n+30000001)).objs cs:=
   ⟨fun al=>lK (al:=al) (al':=al) (fun _ h=>h.elim) (fun _ _=>rfl) _ (fun _ _=>rfl) (fun o ho=>by rw[v1.deep] at ho;cases ho) (v1.cells al),v1.fits,v1.df,v1.st,v1.named,v1.deep⟩
  have hrng:∀q∈(nH T xs.1 (n+30000001)).c.named,n+30000001<=q/\q<(nH T xs.1 (n+30000001)).n:=fun q hq=>by
   obtain⟨p,hp,rfl⟩:=List.mem_map.1 (v1.named q hq)
   exact m1.keys p hp
  refine⟨φ2,ψ2,rU (aEA m1 v1' fun o h3 h4=>.inr (by omega)) s2 hle hn ha.1,⟨cs,rfl,nL T h1,fun al=>?_,v1.deep,fun q hq=>⟨?_,by have:=hrng q hq;omega⟩⟩,mW ps kn (fun _ _=>rfl) (fun o ho=>by show o∈List.map (fun p:Nat×Obj=>p.1) (_++_);rw[List.map_append];exact Zp.2 (.inr ho))⟩
  . exact lK (al:=al) (al':=al) (fun _ h=>h) (fun _ _=>rfl) _ (fun o ho=>s2.hφ _ (by have:=hrng o ho;unfold Rng;omega)) (fun o ho=>by rw[v1.deep] at ho;cases ho) (v1.cells al)
  . show q∈List.map (fun p:Nat×Obj=>p.1) (_++_)
    rw[List.map_append]
    exact Zp.2 (.inl (v1.named q hq))
 |.fn A B::ps,xs,n,vs,Fs,h,ha,hf,hn,φ,ψ=>by
  obtain⟨v,us,F,Gs,rfl,rfl,⟨h1,hF⟩,h2⟩:=h
  unfold oJ at ha
  rw[List.pairwise_cons] at ha
  simp only[jW] at hf
  have hle:=tA ps xs.2 (n+64) hf
  obtain⟨φ2,ψ2,s2,kn⟩:=qV ps xs.2 (n+64) h2 ha.2 hf (by omega) φ ψ
  have s1:xH P w Av φ φ ψ ψ [.one (.fn A B xs.1.1 xs.1.2)] [] (Hd n) [v] F:=
   ⟨fun _ _=>rfl,fun _ _=>rfl,(fun p hp=>by cases hp),(by simp),(fun p hp=>by cases hp),(fun p hp=>by cases hp),(fun p hp=>by cases hp),(fun p hp=>by cases hp),v,[],rfl,fun al=>⟨[v],⟨v,rfl,h1⟩,rfl⟩,(fun q hq=>by cases hq),rfl,rfl⟩
  exact⟨φ2,ψ2,rU s1 s2 hle hn ha.1,mW ps kn (fun _ _=>rfl) (fun o ho=>ho)⟩
 |.peek T::ps,xs,n,vs,Fs,h,ha,hf,hn,φ,ψ=>by
  obtain⟨v,us,F,Gs,rfl,rfl,⟨⟨pb,po,pl,rfl,k1,k2,k3,k4⟩,hF⟩,h2⟩:=h
  unfold oJ at ha
  rw[List.pairwise_cons] at ha
  simp only[jW] at hf
  have hle:=tA ps xs.2 (n+64) hf
  obtain⟨φ2,ψ2,s2,kn⟩:=qV ps xs.2 (n+64) h2 ha.2 hf (by omega) φ ψ
  have s1:xH P w Av φ φ ψ ψ [.one (.dptr T xs.1)] [] (Hd n) [.pointer (some ⟨pb,po,none⟩)] F:=
   ⟨fun _ _=>rfl,fun _ _=>rfl,(fun p hp=>by cases hp),(by simp),(fun p hp=>by cases hp),(fun p hp=>by cases hp),(fun p hp=>by cases hp),(fun p hp=>by cases hp),_,[],rfl,fun al=>⟨_,⟨pb,po,pl,rfl,k1,k2,k3,k4⟩,rfl⟩,(fun q hq=>by cases hq),rfl,rfl⟩
  exact⟨φ2,ψ2,rU s1 s2 hle hn ha.1,mW ps kn (fun _ _=>rfl) (fun o ho=>ho)⟩
 |.nil t e::ps,xs,n,vs,Fs,h,ha,hf,hn,φ,ψ=>by
  obtain⟨v,us,F,Gs,rfl,rfl,⟨rfl,hF⟩,h2⟩:=h
  unfold oJ at ha
  rw[List.pairwise_cons] at ha
  simp only[jW] at hf
  have hle:=tA ps xs (n+64) hf
  obtain⟨φ2,ψ2,s2,kn⟩:=qV ps xs (n+64) h2 ha.2 hf (by omega) φ ψ
  have s1:xH P w Av φ φ ψ ψ [.one .nil] [] (Hd n) [.slice none 0 0] F:=
   ⟨fun _ _=>rfl,fun _ _=>rfl,(fun p hp=>by cases hp),(by simp),(fun p hp=>by cases hp),(fun p hp=>by cases hp),(fun p hp=>by cases hp),(fun p hp=>by cases hp),_,[],rfl,fun al=>⟨_,rfl,rfl⟩,(fun q hq=>by cases hq),rfl,rfl⟩
  exact⟨φ2,ψ2,rU s1 s2 hle hn ha.1,mW ps kn (fun _ _=>rfl) (fun o ho=>ho)⟩
 |.cell ck cT::ps,xs,n,vs,Fs,h,ha,hf,hn,φ,ψ=>by
  obtain⟨v,us,F,Gs,rfl,rfl,⟨b,off,c,EE,fr,rfl,hb,hsz,hfr,hone,hF⟩,h2⟩:=h
  unfold oJ at ha
  rw[List.pairwise_cons] at ha
  simp only[jW] at hf
  have hle:=tA ps xs (n+64) hf
  let inf:dJ:=⟨b,EE,fr,c.toList.take off,c.toList.drop (off+1),.op,(φ n).hdr,(φ n).e⟩
  obtain⟨φ2,ψ2,s2,kn⟩:=qV ps xs (n+64) h2 ha.2 hf (by omega) (fup φ n inf) ψ
  have hlen:off+1<=c.toList.length:=by rw[Array.length_toList];exact hsz
  have hpre:(c.toList.take off).length=off:=by rw[Zr];omega
  have s1:xH P w Av φ (fup φ n inf) ψ ψ [.one (.bptr n [] .op)] [(n,.box .op .undef)] (Hd n) [.pointer (some ⟨b,off,none⟩)] F:=by
   refine⟨fun o ho=>?_,fun o ho=>rfl,fun p hp=>?_,by simp,fun p hp al=>?_,fun p hp=>?_,fun p hp q hq=>?_,fun p hp p' hp' hne q hq hq'=>?_,⟨_,[],rfl,fun al=>⟨_,⟨?_,rfl⟩,?_⟩,?_,rfl,rfl⟩⟩
   . rw[sU]
     rintro rfl
     exact ho (.inl (by omega))
   . simp only[Zq] at hp;subst hp
     exact .inl (by simp)
   . simp only[Zq] at hp;subst hp
     show(Obj.box .op .undef).rep P (fup φ n inf) ψ w Av al n
     refine⟨by rw[fH],rfl,[c.toList[off]'(by omega)],⟨_,rfl,?_⟩,?_,?_⟩
     . exact hone _ (Zm (by omega))
     . rw[fH]
       show w.heap[b]?=some (.cells (c.toList.take off++[c.toList[off]'(by omega)]++c.toList.drop (off+1)).toArray EE fr)
       have:c.toList.take off++[c.toList[off]'(by omega)]++c.toList.drop (off+1)=c.toList:=by
        rw[Zk,List.singleton_append,List.getElem_cons_drop,List.take_append_drop]
       rw[this,hb]
     . rw[fH]
       show xV fr (c.toList.take off).length 1
       rw[hpre];exact hfr
   . simp only[Zq] at hp;subst hp
     exact⟨(fun q hq=>by cases hq),rfl⟩
   . simp only[Zq] at hp;subst hp
     simp only[kL,fH] at hq
     exact(hF q).2 hq
   . simp only[Zq] at hp hp';subst hp;subst hp';exact absurd rfl hne
   . rw[fH];rfl
   . rw[fH]
     show Value.pointer (some ⟨b,off,none⟩)=cS false [.pointer (some ⟨b,(c.toList.take off).length+0,none⟩)]
     rw[hpre];simp[cS]
   . intro q hq
     simp only[SV.named,CT.named,Zq] at hq
     subst hq;simp
  refine⟨φ2,ψ2,rU s1 s2 hle hn ha.1,⟨by simp[dD],?_⟩,mW ps kn (fun _ _=>rfl) (fun o ho=>?_)⟩
  . have h2n:φ2 n=inf:=by rw[s2.hφ _ (by unfold Rng;omega),fH]
    rw[h2n]
    refine⟨rfl,c,?_⟩
    show _=some (Value.pointer (some ⟨b,(c.toList.take off).length,none⟩))/\w.heap[b]?=some (.cells c EE fr)/\c.toList.take off=c.toList.take (c.toList.take off).length/\c.toList.drop (off+1)=c.toList.drop ((c.toList.take off).length+1)/\_
    rw[hpre]
    exact⟨rfl,hb,rfl,rfl,hlen⟩
  . show o∈List.map (fun p:Nat×Obj=>p.1) (_::_)
    exact Zo _ ho
 |.ref T m::ps,xs,n,vs,Fs,h,ha,hf,hn,φ,ψ=>by
  obtain⟨v,us,F,Gs,rfl,rfl,⟨b,off,c,EE,fr,F0,rfl,hb,hsz,hfr,h1,hF0,hF⟩,h2⟩:=h
  unfold oJ at ha
  rw[List.pairwise_cons] at ha
  simp only[jW,Zb,Nat.ble_eq] at hf
  have hle:=tA ps xs.2 (n+64) hf.2
  have hmle:=xA m T xs.1 (n+1)
  let inf:dJ:=⟨b,EE,fr,c.toList.take off,c.toList.drop (off+T.sz),T,(φ n).hdr,(φ n).e⟩
  obtain⟨φ1,ψ1,m1,v1⟩:=zI (P:=P) m T xs.1 (n+1) (fup φ n inf) ψ h1
  obtain⟨φ2,ψ2,s2,kn⟩:=qV ps xs.2 (n+64) h2 ha.2 hf.2 (by omega) φ1 ψ1
  have hφn:φ1 n=inf:=by rw[m1.hφ n (.inl (by omega)),fH]
  have sv:=aEA (D:=Hd n) m1 v1 (fun o h3 h4=>.inl (by omega))
  have hlen:off+T.sz<=c.toList.length:=by rw[Array.length_toList];exact hsz
  have hpre:(c.toList.take off).length=off:=by rw[Zr];omega
  have s1:xH P w Av φ φ1 ψ ψ1 [.one (.bptr n [] T)] ((n,.box T (nM m T xs.1 (n+1)).c)::(nM m T xs.1 (n+1)).objs) (Hd n) [.pointer (some ⟨b,off,none⟩)] F:=by
   have hnb:∀p∈(nM m T xs.1 (n+1)).objs,p.1≠n:=fun p hp=>by have:=(m1.keys p hp).1;omega
   have hbox:∀q,kL φ1 ψ1 n (.box T (nM m T xs.1 (n+1)).c) q↔q=b:=by
    intro q;simp only[kL,hφn,inf]
   refine⟨fun o ho=>?_,fun o ho=>sv.hψ o ho,fun p hp=>?_,?_,fun p hp al=>?_,fun p hp=>?_,fun p hp q hq=>?_,fun p hp p' hp' hne q hq hq'=>?_,⟨_,[],rfl,fun al=>⟨_,⟨?_,rfl⟩,?_⟩,?_,rfl,rfl⟩⟩
   . rw[sv.hφ o ho,sU]
     rintro rfl
     exact ho (.inl (by omega))
   . rcases List.mem_cons.1 hp with rfl|hp
     . exact .inl (by simp)
     . exact sv.keys p hp
   . rw[List.map_cons,List.nodup_cons]
     refine⟨fun hm=>?_,m1.nod⟩
     obtain⟨p,hp,hpe⟩:=List.mem_map.1 hm
     exact hnb p hp hpe
   . rcases List.mem_cons.1 hp with rfl|hp
     . show(Obj.box T (nM m T xs.1 (n+1)).c).rep P φ1 ψ1 w Av al n
       refine⟨by rw[hφn],v1.fits,_,v1.cells al,?_,?_⟩
       . rw[hφn]
         show w.heap[b]?=some (.cells (c.toList.take off++fX c.toList off T.sz++c.toList.drop (off+T.sz)).toArray EE fr)
         have:c.toList.take off++fX c.toList off T.sz++c.toList.drop (off+T.sz)=c.toList:=by
          unfold fX
          rw[Zk,<-List.drop_drop,List.take_append_drop,List.take_append_drop]
         rw[this,hb]
       . rw[hφn]
         show xV fr (c.toList.take off).length T.sz
         rw[hpre];exact hfr
     . exact sv.rep p hp al
   . rcases List.mem_cons.1 hp with rfl|hp
     . exact⟨fun q hq=>by rw[List.map_cons];exact Zo _ (v1.named q hq),v1.deep⟩
     . exact⟨fun q hq=>by rw[List.map_cons];exact Zo _ ((sv.named p hp).1 q hq),(sv.named p hp).2⟩
   . rcases List.mem_cons.1 hp with rfl|hp
     . exact(hF q).2 (.inl ((hbox q).1 hq))
     . exact(hF q).2 (.inr (sv.fp p hp q hq))
   . rcases List.mem_cons.1 hp with rfl|hp<;>rcases List.mem_cons.1 hp' with rfl|hp'
     . exact hne rfl
     . exact hF0 ((hbox q).1 hq▸sv.fp p' hp' q hq')
     . exact hF0 ((hbox q).1 hq'▸sv.fp p hp q hq)
     . exact sv.dis p hp p' hp' hne q hq hq'
   . rw[hφn];rfl
   . rw[hφn]
     show Value.pointer (some ⟨b,off,none⟩)=cS false [.pointer (some ⟨b,(c.toList.take off).length+0,none⟩)]
     rw[hpre];simp[cS]
   . intro q hq
     simp only[SV.named,CT.named,Zq] at hq
     subst hq;simp
  refine⟨φ2,ψ2,rU s1 s2 hle hn ha.1,⟨?_,c,?_⟩,mW ps kn (fun _ _=>rfl) (fun o ho=>?_)⟩
  . simp[dD]
  . have h2n:φ2 n=inf:=by rw[s2.hφ _ (by unfold Rng;omega),hφn]
    rw[h2n]
    show _=some (Value.pointer (some ⟨b,(c.toList.take off).length,none⟩))/\w.heap[b]?=some (.cells c EE fr)/\c.toList.take off=c.toList.take (c.toList.take off).length/\c.toList.drop (off+T.sz)=c.toList.drop ((c.toList.take off).length+T.sz)/\(c.toList.take off).length+T.sz<=c.toList.length
    rw[hpre]
    exact⟨rfl,hb,rfl,rfl,hlen⟩
  . show o∈List.map (fun p:Nat×Obj=>p.1) ((_::_)++_)
    rw[List.map_append];exact Zp.2 (.inr ho)
end
end Go.Aw
