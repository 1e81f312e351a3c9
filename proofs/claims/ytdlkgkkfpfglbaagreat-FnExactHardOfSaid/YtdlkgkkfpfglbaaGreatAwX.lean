/-
 Behind a call.
-/
import Derived.Test.YtdlkgkkfpfglbaaGreatAwW
namespace Go.Aw
open Go.IntKind (wrap)
open List (length)
def aGd(cx:Cx)(σ:St)(tmps:Array Value)(e:uM)(v:Value)(w':World):Prop:=
 ∃φ ψ Av objs',(∀q,find (σ.apply none e).objs q=find objs' q)/\iH cx φ ψ Av objs' w'/\kV cx.P φ Av ⟨(σ.apply none e).slots,objs'⟩ tmps w'/\
  (kv e).rep cx.P φ w' Av (bH objs') v/\∀q∈(kv e).named,keys objs' q
theorem aGd.fin{cx:Cx}{σ:St}{a:Act}{e:uM}{v:Value}{w':World}(h:aGd cx σ a.tmps e v w')(hd:a.defers=[])(dst:Option Tmp):vG cx (σ.apply dst e) (a.put dst v) w':=by
 have hdoes:wK cx σ a.tmps (pure v) w' e:=⟨v,w',by simp,h⟩
 obtain⟨v1,w1,h1,h2⟩:=hdoes.fin hd dst
 simp only[Sem.run_pure,Result.ok.injEq] at h1
 obtain⟨rfl,rfl⟩:=h1
 exact h2
section
variable {cx:Cx} {φ:Nat->dJ} {ψ:Nat->Nat->Prop} {w w':World} {K Av Av':Nat->Prop} {σ:St} {tmps:Array Value} {E:eI} {e:uM}
theorem aK8{φ2:Nat->dJ}{ψ2:Nat->Nat->Prop}{go:List Nat}{l:List (Nat×Obj)}{n n':Nat}{G:Nat->Prop}{sv:SV}{v:Value}(hO:iH cx φ ψ Av σ.objs w)(hS:kV cx.P φ Av σ tmps w)
 (b:Bk cx φ ψ σ.objs w w' K (fun b=>Av b\/Av' b) φ φ2 ψ ψ2 go l n n' G) (_hgo:∀o∈go,keys σ.objs o) (hfr:∀o,n<=o->o<n'->find σ.objs o=none/\o<10000000) (hsz:vF w w')
 (hw:∀b,b<w.heap.size->¬Of φ ψ σ.objs go b->w'.heap[b]?=w.heap[b]?) (hG:∀q,G q->q<w'.heap.size/\(w.heap.size<=q\/Of φ ψ σ.objs go q))
 (hAv:∀b,Av' b->b<w'.heap.size/\¬G b/\(Av b\/Of φ ψ σ.objs go b\/w.heap.size<=b)) (hdK:(∀o x,find σ.objs o=some x->∀q∈x.deep,¬K q)/\∀(t:Nat) x,σ.slots[t]?=some x->∀q∈x.deep,¬K q) (he:e=⟨sv,l,none⟩) (hv:∀al,sv.rep cx.P φ2 w' (fun b=>Av b\/Av' b) al v) (hvn:∀q∈sv.named,q∈l.map (·.1)):
 aGd cx σ tmps e v w':=by
 subst he
 have hf:∀o,find (fE σ.objs l) o=(find l o).or (find σ.objs o):=mU _ _ b.nod
 have hin:∀o,o∈l.map (·.1)->(find l o).isSome=true:=by
  intro o ho
  obtain⟨p,hp,rfl⟩:=List.mem_map.1 ho
  rw[mH b.nod (o:=p.1) (a:=p.2) hp];rfl
 have hout:∀o,keys σ.objs o->o<n\/n'<=o:=by
  intro o ho
  rcases Nat.lt_or_ge o n with h4|h4
  . exact .inl h4
  . rcases Nat.lt_or_ge o n' with h5|h5
    . have h6:=(hfr o h4 h5).1
      unfold keys at ho;rw[h6] at ho;cases ho
    . exact .inr h5
 have hφ:∀o,keys σ.objs o->φ2 o=φ o:=fun o ho=>b.hφ o (hout o ho)
 have hngo:∀o,find l o=none->o∉go:=by
  intro o ho h
  have:=hin o (b.all o h)
  rw[ho] at this;cases this
 have hsame:∀o x,find σ.objs o=some x->o∉go->∀q,kL φ ψ o x q->w'.heap[q]?=w.heap[q]?:=by
  intro o x hx ho q hq
  refine hw q (hO.own o x hx q hq).1 ?_
  rintro⟨o',x',h1,h2,h3⟩
  refine hO.disj o x o' x' hx h2 ?_ q hq h3
  rintro rfl;exact ho h1
 have hav:∀q,Av q->w'.heap[q]?=w.heap[q]?:=by
  intro q hq
  refine hw q (hO.av q hq).1 ?_
  rintro⟨o',x',h1,h2,h3⟩
  exact(hO.av q hq).2.1 o' x' h2 h3
 have hst:∀q,keys σ.objs q->¬K q->bH (fE σ.objs l) q->bH σ.objs q/\oE φ w φ2 w' q:=by
  intro q hq hnK ha
  have hk:=hφ q hq
  unfold keys at hq
  obtain⟨t,T,xs,ha⟩:=ha
  rw[hf] at ha
  cases hl:find l q with
  |none=>
   rw[hl] at ha
   simp only[Option.none_or] at ha
   obtain⟨g1,g2⟩:=hO.reps q _ ha
   exact⟨⟨t,T,xs,ha⟩,zQ g1 g2 hk (hsame q _ ha (hngo q hl))⟩
  |some X=>
   rw[hl] at ha
   simp only[Option.some_or,Zc] at ha
   subst ha
   have:=b.item _ (iW hl)
   cases this with
   |arr t e xs he hr hold=>
    obtain⟨h1,h2⟩:=hold hq
    exact⟨h1,aHi hk (h2.resolve_right hnK)⟩
 have s:sS cx φ ψ Av σ.objs w φ2 ψ2 (fun b=>Av b\/Av' b) (fE σ.objs l) l w':=by
  refine⟨hf,fun o ho=>?_,fun o ho hn=>?_,fun q hq=>.inl hq,fun q hq=>?_,fun q hq hno=>?_,hsz,fun o x hx=>?_,fun o x hx q hq=>?_,fun o x o' x' hx hx' hne q hq hq'=>?_,fun o x hx q hq=>?_,fun o x hx hn q hq hu ha=>?_⟩
  . rcases ho with ho|ho
    . exact hφ o ho
    . refine b.hφ o ?_
      rcases Nat.lt_or_ge o n with h4|h4
      . exact .inl h4
      . rcases Nat.lt_or_ge o n' with h5|h5
        . have:=(hfr o h4 h5).2;omega
        . exact .inr h5
  . exact b.hψ o (hout o ho) (hngo o hn)
  . rcases hq with hq|hq
    . exact .inl hq
    . obtain⟨h1,h2,h3⟩:=hAv q hq
      rcases h3 with h3|h3
      . exact .inl h3
      . refine .inr ⟨h1,fun o x hx hn hq'=>?_,fun o x hx hq'=>h2 (b.blk _ (iW hx) q hq'),?_⟩
        . rcases h3 with⟨o',x',k1,k2,k3⟩|h3
          . refine hO.disj o x o' x' hx k2 ?_ q hq' k3
            rintro rfl;exact hngo o hn k1
          . have:=(hO.own o x hx q hq').1;omega
        . rcases h3 with⟨o',x',k1,k2,k3⟩|h3
          . exact(hO.own o' x' k2 q k3).2.symm
          . exact .inl (Nat.le_trans hO.grow.size h3)
  . refine hw q hq ?_
    rintro⟨o',x',k1,k2,k3⟩
    exact hno o' x' k2 (hin o' (b.all o' k1)) k3
  . have hit:=b.item _ (iW hx)
    cases hit with
    |dead=>trivial
    |arr t e xs he hr hold=>exact⟨he,hr⟩
    |box V T c d p vs c' ho hp hvl hb hc=>
     have ho':find σ.objs o=some (.box V c):=ho
     obtain⟨g1,g2,mid,g3,g4,g5⟩:=hO.reps o _ ho'
     have hko:keys σ.objs o:=by unfold keys;rw[ho'];rfl
     have hml:=cells_len g2 g3
     have hcm:=hc mid hml g4
     have g3':c.cells cx.P φ2 w' (fun b=>Av b\/Av' b) (bH (fE σ.objs l)) mid:=
      lK (fun _ h=>.inl h) hav c (fun q hq=>hφ q (hO.names o _ ho' q hq)) (fun q hq ha=>hst q (hO.names o _ ho' q (nS c q hq)) (hdK.1 o _ ho' q hq) ha) g3
     obtain⟨j1,j2,j3⟩:=zP p c hp g2 g3' hvl.fits (hvl.cells _)
     refine⟨by rw[hφ o hko];exact g1,j2,_,j1,?_,by rw[hφ o hko];exact g5⟩
     rw[hφ o hko]
     have hb':w'.heap[(φ o).b]?=some (.cells c' (φ o).E (φ o).fr):=hb
     rw[hb',<-hcm]
    |keep c ho hd hf hb=>
     have ho':find σ.objs o=some (.box .op c):=ho
     obtain⟨g1,g2,mid,g3,g4,g5⟩:=hO.reps o _ ho'
     have hko:keys σ.objs o:=by unfold keys;rw[ho'];rfl
     have g3':c.cells cx.P φ2 w' (fun b=>Av b\/Av' b) (bH (fE σ.objs l)) mid:=
      lK (fun _ h=>.inl h) hav c (fun q hq=>hφ q (hO.names o _ ho' q hq)) (fun q hq=>by rw[hd] at hq;cases hq) g3
     have hb':w'.heap[(φ o).b]?=w.heap[(φ o).b]?:=hb
     refine⟨by rw[hφ o hko];exact g1,g2,mid,g3',?_,by rw[hφ o hko];exact g5⟩
     rw[hφ o hko,hb',g4]
    |new T c vs hT hv hb hf=>exact⟨hT,hv.fits,vs,hv.cells _,hb,hf⟩
  . have:=hG q (b.blk _ (iW hx) q hq)
    refine⟨this.1,this.2.imp id ?_⟩
    rintro⟨o',x',k1,k2,k3⟩
    exact⟨o',x',k2,hin o' (b.all o' k1),k3⟩
  . exact b.dis _ (iW hx) _ (iW hx') hne q hq hq'
  . have hit:=b.item _ (iW hx)
    have hkl:∀q,q∈l.map (·.1)\/keys σ.objs q->(find (fE σ.objs l) q).isSome=true:=by
     intro q hq
     rw[hf]
     cases hl:find l q with
     |some X=>rfl
     |none=>
      rcases hq with hq|hq
      . have:=hin q hq;rw[hl] at this;cases this
      . exact hq
    cases hit with
    |dead=>cases hq
    |arr t e xs he hr hold=>cases hq
    |box V T c d p vs c' ho hp hvl hb hc=>
     have ho':find σ.objs o=some (.box V c):=ho
     obtain⟨g1,g2,mid,g3,g4,g5⟩:=hO.reps o _ ho'
     have g3':c.cells cx.P φ2 w' (fun b=>Av b\/Av' b) (bH (fE σ.objs l)) mid:=
      lK (fun _ h=>.inl h) hav c (fun q hq=>hφ q (hO.names o _ ho' q hq)) (fun q hq ha=>hst q (hO.names o _ ho' q (nS c q hq)) (hdK.1 o _ ho' q hq) ha) g3
     obtain⟨j1,j2,j3⟩:=zP p c hp g2 g3' hvl.fits (hvl.cells (bH (fE σ.objs l)))
     exact hkl q ((j3 q hq).symm.imp (hvl.named q) (hO.names o _ ho' q))
    |keep c ho hd hf hb=>
     have ho':find σ.objs o=some (.box .op c):=ho
     exact hkl q (.inr (hO.names o _ ho' q hq))
    |new T c vs hT hv hb hf=>exact hkl q (.inl (hv.named q hq))
  . exact hst q (hO.names o x hx q (aAp x q hq)) (hdK.1 o x hx q hq) ha
 refine⟨φ2,ψ2,_,fE σ.objs l,fun _=>rfl,hO.step s,kV.step hO s hS fun t x hx q hq _ ha=>hst q (hS.names t x hx q (sE x q hq)) (hdK.2 t x hx q hq) ha,hv _,fun q hq=>?_⟩
 unfold keys
 rw[hf]
 have:=hin q (hvn q hq)
 cases hl:find l q with
 |some X=>rfl
 |none=>rw[hl] at this;cases this
def killed(K:List Nat)(objs:List (Nat×Obj)):List (Nat×Obj):=objs.map fun p=>(p.1,p.2.kill K)
theorem aGm{φ:Nat->dJ}{ψ:Nat->Nat->Prop}{objs:List (Nat×Obj)}{kl ids:List Nat}{b:Nat}:Of φ ψ (killed kl objs) ids b↔Of φ ψ objs ids b:=by
 constructor
 . rintro⟨o,x,h1,h2,h3⟩
   unfold killed at h2
   rw[lJ] at h2
   cases hy:find objs o with
   |none=>rw[hy] at h2;cases h2
   |some y=>
    rw[hy] at h2
    simp only[Option.map_some,Zc] at h2
    subst h2
    exact⟨o,y,h1,hy,by cases y<;>exact h3⟩
 . rintro⟨o,x,h1,h2,h3⟩
   refine⟨o,x.kill kl,h1,?_,by cases x<;>exact h3⟩
   unfold killed
   rw[lJ,h2];rfl
theorem aCT{objs:List (Nat×Obj)}{kl:List Nat}{o:Nat}:(find (killed kl objs) o).isSome=(find objs o).isSome:=by
 unfold killed
 rw[lJ]
 cases find objs o<;>rfl
theorem Bk.killed{objs:List (Nat×Obj)}{kl:List Nat}{φ1 φ2:Nat->dJ}{ψ1 ψ2:Nat->Nat->Prop}{g:List Nat}{l:List (Nat×Obj)}{n n':Nat}{G:Nat->Prop}(h:Bk cx φ ψ objs w w' K Av' φ1 φ2 ψ1 ψ2 g l n n' G)
 (hl:∀p∈l,p.2.noBox=true):Bk cx φ ψ (killed kl objs) w w' K Av' φ1 φ2 ψ1 ψ2 g l n n' G:=by
 refine⟨h.le,h.hφ,h.hψ,h.keys,h.all,h.nod,fun p hp=>?_,h.blk,h.dis⟩
 have h1:=h.item p hp
 have h2:=hl p hp
 generalize p.2=x at h1 h2
 cases h1 with
 |dead=>exact .dead
 |arr t e xs he hr hold=>
  refine .arr t e xs he hr fun hs=>?_
  rw[aCT] at hs
  obtain⟨h3,h4⟩:=hold hs
  refine⟨?_,h4⟩
  show bH (objs.map fun p=>(p.1,p.2.kill kl)) p.1
  rw[aA5];exact h3
 |box V T c d p vs c' ho hp hv hb hc=>cases h2
 |keep c ho hd hf hb=>cases h2
 |new T c vs hT hv hb hf=>cases h2
theorem aJ8{x:Obj}{kl:List Nat}(h:x.noBox=true):x.kill kl=x:=by
 cases x with
 |box T c=>cases h
 |_=>rfl
theorem aIo{sv:SV}{l:List (Nat×Obj)}{kl:List Nat}{v:Value}(hn:(l.map (·.1)).Nodup)(hl:∀p∈l,p.2.noBox=true)(h:aGd cx ⟨σ.slots.map (SV.kill kl),killed kl σ.objs⟩ tmps ⟨sv,l,none⟩ v w'):
 aGd cx σ tmps ⟨sv,l,some kl⟩ v w':=by
 obtain⟨φ',ψ',Av1,objs',h1,h2,h3,h4,h5⟩:=h
 refine⟨φ',ψ',Av1,objs',fun q=>?_,h2,h3,aHT sv h4,fun q hq=>h5 q ?_⟩
 . rw[<-h1]
   show find ((fE σ.objs l).map fun p=>(p.1,p.2.kill kl)) q=find (fE (killed kl σ.objs) l) q
   rw[lJ,mU _ _ hn,mU _ _ hn]
   unfold killed
   rw[lJ]
   cases hf:find l q with
   |none=>simp
   |some X=>simp[aJ8 (hl _ (iW hf))]
 . have hq:q∈(sv.kill kl).named:=hq
   show q∈sv.named
   cases sv<;>exact tN _ q hq
theorem aEc{f:Nat->Option Obj}:(k n:Nat)->{u:Unit}->(vY (aCO n k)).ev f=some u->∀o,n<=o->o<n+k->f o=none/\o<10000000
 |0,n,_,h,o,h1,h2=>by omega
 |k+1,n,u,h,o,h1,h2=>by
  simp only[aCO,vY,Zi,Nat.blt_eq] at h
  split at h
  . rename_i hn
    simp only[M.ev] at h
    cases hf:f n with
    |some x=>rw[hf] at h;cases h
    |none=>
     rw[hf] at h
     rcases Nat.lt_or_ge n o with h3|h3
     . exact aEc k (n+1) h o (by omega) (by omega)
     . have:o=n:=by omega
       subst this;exact⟨hf,hn⟩
  . cases h
theorem oM{w w':World}{A B:Nat->Prop}:(ps:List PM)->((∀b,A b->B b)\/nP ps=false)->(out:yP ps)->{vs:List Value}->{Fs Gs:List (Nat->Prop)}->uT w w' A ps out vs Fs Gs->uT w w' B ps out vs Fs Gs
 |[],_,out,vs,Fs,Gs,h=>h
 |.val T m::ps,hs,out,vs,Fs,Gs,h=>oM ps hs out h
 |.fn _ _::ps,hs,out,vs,Fs,Gs,h=>oM ps hs out h
 |.peek _::ps,hs,out,vs,Fs,Gs,h=>oM ps hs out h
 |.nil _ _::ps,hs,out,vs,Fs,Gs,h=>oM ps hs out h
 |.cell _ _::ps,hs,out,vs,Fs,Gs,h=>by
  obtain⟨b,off,G,Gs',h1,h2,h3,h4,h5⟩:=h
  exact⟨b,off,G,Gs',h1,h2,h3,h4,oM ps hs out h5⟩
 |.mut T::ps,hs,out,vs,Fs,Gs,h=>by
  obtain⟨v,G,Gs',h1,h2,h3,h4⟩:=h
  exact⟨v,G,Gs',h1,h2,h3,oM ps hs out.2 h4⟩
 |.ref T m::ps,hs,out,vs,Fs,Gs,h=>by
  obtain⟨b,off,G,G0,Gs',c',h1,h2,h3,h4,h5,h6,h7⟩:=h
  refine⟨b,off,G,G0,Gs',c',h1,h2,h3,?_,h5,h6,oM ps (hs.imp id fun h=>?_) out.2 h7⟩
  . rcases hs with hs|hs
    . exact qP hs m T h4
    . cases m with
      |o=>exact h4
      |f=>
       simp only[nP,Bool.or_eq_false_iff,Bool.not_eq_false'] at hs
       exact tB .f T hs.1 h4
      |pair m k=>
       simp only[nP,Bool.or_eq_false_iff,Bool.not_eq_false'] at hs
       exact tB (.pair m k) T hs.1 h4
      |np m=>
       simp only[nP,Bool.or_eq_false_iff,Bool.not_eq_false'] at hs
       exact tB (.np m) T hs.1 h4
  . cases m with
    |o=>exact h
    |f=>simp only[nP,Bool.or_eq_false_iff] at h;exact h.2
    |pair m k=>simp only[nP,Bool.or_eq_false_iff] at h;exact h.2
    |np m=>simp only[nP,Bool.or_eq_false_iff] at h;exact h.2
theorem aD0{w':World}{A B:Nat->Prop}:(rs:List (Ty×Md))->((∀b,A b->B b)\/uQ rs=false)->(y:Res rs)->{vs:List Value}->{Hs:List (Nat->Prop)}->aAv w' A rs y vs Hs->aAv w' B rs y vs Hs
 |[],_,y,vs,Hs,h=>h
 |(T,m)::rs,hs,y,vs,Hs,h=>by
  obtain⟨v,u,H,Ks,h1,h2,h4,h5⟩:=h
  refine⟨v,u,H,Ks,h1,h2,?_,aD0 rs (hs.imp id fun h=>?_) y.2 h5⟩
  . cases m with
    |o=>
     rcases hs with hs|hs
     . obtain⟨cs,h3,h4⟩:=h4
       exact⟨cs,h3,qP hs .o T h4⟩
     . exact h4
    |f=>
     obtain⟨cs,h3,h4⟩:=h4
     rcases hs with hs|hs
     . exact⟨cs,h3,qP hs .f T h4⟩
     . simp only[uQ,Bool.or_eq_false_iff,Bool.not_eq_false'] at hs
       exact⟨cs,h3,tB .f T hs.1 h4⟩
    |pair m k=>
     obtain⟨cs,h3,h4⟩:=h4
     rcases hs with hs|hs
     . exact⟨cs,h3,qP hs (.pair m k) T h4⟩
     . simp only[uQ,Bool.or_eq_false_iff,Bool.not_eq_false'] at hs
       exact⟨cs,h3,tB (.pair m k) T hs.1 h4⟩
    |np m=>
     obtain⟨b,off,c,E,fr,F0,k1,k2,k3,k4,k5,k6⟩:=h4
     rcases hs with hs|hs
     . exact⟨b,off,c,E,fr,F0,k1,k2,k3,k4,qP hs m T k5,k6⟩
     . simp only[uQ,Bool.or_eq_false_iff,Bool.not_eq_false'] at hs
       exact⟨b,off,c,E,fr,F0,k1,k2,k3,k4,tB m T hs.1 k5,k6⟩
  . cases m with
    |o=>exact h
    |f=>simp only[uQ,Bool.or_eq_false_iff] at h;exact h.2
    |pair m k=>simp only[uQ,Bool.or_eq_false_iff] at h;exact h.2
    |np m=>simp only[uQ,Bool.or_eq_false_iff] at h;exact h.2
theorem aM7(m:Md)(T:Ty)(x:T.D)(n:Nat):n<=(mkR m T x n).n:=by
 cases m with
 |np m=>exact Nat.le_trans (Nat.le_succ n) (xA m T x (n+1))
 |_=>exact xA _ T x n
theorem aDT:(rs:List (Ty×Md))->(y:Res rs)->(n:Nat)->n<=(qE rs y n).n
 |[],_,n=>Nat.le_refl n
 |(T,m)::rs,y,n=>Nat.le_trans (aM7 m T y.1 n) (aDT rs y.2 _)
theorem aLS{P:Program}{φ φ':Nat->dJ}{w:World}{Av al:Nat->Prop}{c:CT}{v:Value}(h:c.val P φ w Av al v)(hφ:∀q∈c.named,φ' q=φ q)(hd:c.deep=[]):c.val P φ' w Av al v:=
 aBS (al:=al) (al':=al) (fun _ h=>h) (fun _ _=>rfl) (.one c) hφ (fun q hq _=>by
  have hq:q∈c.deep:=hq
  rw[hd] at hq;cases hq) h
theorem aNY{objs:List (Nat×Obj)}{w w':World}{K Av':Nat->Prop}:(m:Md)->(T:Ty)->(x:T.D)->(n:Nat)->{v:Value}->{H:Nat->Prop}->(φ1:Nat->dJ)->(ψ1:Nat->Nat->Prop)->aJi w' Av' m T x v H->
 (∀o,n<=o->o<(mkR m T x n).n->find objs o=none)->
 ∃φ2 ψ2,Bk cx φ ψ objs w w' K Av' φ1 φ2 ψ1 ψ2 [] (mkR m T x n).objs n (mkR m T x n).n H/\(∀al,(mkR m T x n).c.val cx.P φ2 w' Av' al v)/\(∀q∈(mkR m T x n).c.named,q∈(mkR m T x n).objs.map (·.1))/\(mkR m T x n).c.deep=[]:=by
 intro m T x n v H φ1 ψ1 h hfr
 have plain:∀m:Md,(∃cs,v=cS T.isSt cs/\rdM w' Av' m T x cs H)->(∀o,n<=o->o<(nM m T x n).n->find objs o=none)->
  ∃φ2 ψ2,Bk cx φ ψ objs w w' K Av' φ1 φ2 ψ1 ψ2 [] (nM m T x n).objs n (nM m T x n).n H/\(∀al,(nM m T x n).c.val cx.P φ2 w' Av' al v)/\(∀q∈(nM m T x n).c.named,q∈(nM m T x n).objs.map (·.1))/\(nM m T x n).c.deep=[]:=by
  rintro m ⟨cs,rfl,h1⟩ hfr
  obtain⟨φ2,ψ2,m1,v1⟩:=zI (P:=cx.P) m T x n φ1 ψ1 h1
  refine⟨φ2,ψ2,m1.bk hfr,fun al=>?_,v1.named,v1.deep⟩
  have:=v1.cells al
  have hd:=yE v1.df
  rw[<-v1.st]
  generalize (nM m T x n).c=c at *
  cases c with
  |undef=>exact absurd rfl hd.1
  |skip=>exact absurd rfl hd.2
  |_=>exact⟨cs,this,rfl⟩
 cases m with
 |f=>exact plain .f h hfr
 |o=>exact plain .o h hfr
 |pair a b=>exact plain (.pair a b) h hfr
 |np m=>
  obtain⟨b,off,c,E,fr,F0,rfl,hb,hsz,hff,h1,hF0,hF⟩:=h
  have hfr:∀o,n<=o->o<(nM m T x (n+1)).n->find objs o=none:=hfr
  let inf:dJ:=⟨b,E,fr,c.toList.take off,c.toList.drop (off+T.sz),T,(φ1 n).hdr,(φ1 n).e⟩
  obtain⟨φ2,ψ2,m1,v1⟩:=zI (P:=cx.P) m T x (n+1) (fup φ1 n inf) ψ1 h1
  have hle:=xA m T x (n+1)
  have hφn:φ2 n=inf:=by rw[m1.hφ n (.inl (by omega)),fH]
  have mb:=m1.bk (cx:=cx) (φ:=φ) (ψ:=ψ) (w:=w) (K:=K) (Av':=Av') (objs:=objs) (fun o h3 h4=>hfr o (by omega) h4)
  have hlen:off+T.sz<=c.toList.length:=by rw[Array.length_toList];exact hsz
  have hpre:(c.toList.take off).length=off:=by rw[Zr];omega
  have hnb:∀p∈(nM m T x (n+1)).objs,p.1≠n:=fun p hp=>by have:=(m1.keys p hp).1;omega
  have hbox:∀q,kL φ2 ψ2 n (.box T (nM m T x (n+1)).c) q↔q=b:=by
   intro q;simp only[kL,hφn,inf]
  have hall:c.toList.take off++fX c.toList off T.sz++c.toList.drop (off+T.sz)=c.toList:=by
   unfold fX
   rw[Zk,<-List.drop_drop,List.take_append_drop,List.take_append_drop]
  refine⟨φ2,ψ2,⟨Nat.le_trans (Nat.le_succ n) hle,fun o ho=>?_,fun o ho _=>m1.hψ o (by have:o<n\/(nM m T x (n+1)).n<=o:=ho;omega),fun p hp=>?_,(fun o ho=>by cases ho),?_,fun p hp=>?_,fun p hp q hq=>?_,fun p hp p' hp' hne q hq hq'=>?_⟩,fun al=>?_,fun q hq=>?_,rfl⟩
  . have ho:o<n\/(nM m T x (n+1)).n<=o:=ho
    rw[m1.hφ o (by omega),sU (by omega)]
  . rcases List.mem_cons.1 hp with rfl|hp
    . exact .inr ⟨Nat.le_refl _,hle⟩
    . have:=m1.keys p hp
      exact .inr ⟨by omega,this.2⟩
  . show((n::(nM m T x (n+1)).objs.map (·.1))).Nodup
    rw[List.nodup_cons]
    refine⟨fun hm=>?_,m1.nod⟩
    obtain⟨p,hp,hpe⟩:=List.mem_map.1 hm
    exact hnb p hp hpe
  . rcases List.mem_cons.1 hp with rfl|hp
    . refine .new T _ _ (by show(φ2 n).T=T;rw[hφn]) (v1.more fun q hq=>Zo _ hq) ?_ ?_
      . show w'.heap[(φ2 n).b]?=_
        rw[hφn]
        show w'.heap[b]?=some (.cells (c.toList.take off++fX c.toList off T.sz++c.toList.drop (off+T.sz)).toArray E fr)
        rw[hall,hb]
      . show xV (φ2 n).fr (φ2 n).pre.length T.sz
        rw[hφn]
        show xV fr (c.toList.take off).length T.sz
        rw[hpre];exact hff
    . exact(mb.item p hp).agr rfl rfl (fun _ _=>rfl) (fun q hq=>Zo _ hq)
  . rcases List.mem_cons.1 hp with rfl|hp
    . exact(hF q).2 (.inl ((hbox q).1 hq))
    . exact(hF q).2 (.inr (mb.blk p hp q hq))
  . rcases List.mem_cons.1 hp with rfl|hp<;>rcases List.mem_cons.1 hp' with rfl|hp'
    . exact hne rfl
    . exact hF0 ((hbox q).1 hq▸mb.blk p' hp' q hq')
    . exact hF0 ((hbox q).1 hq'▸mb.blk p hp q hq)
    . exact mb.dis p hp p' hp' hne q hq hq'
  . refine⟨_,⟨?_,rfl⟩,?_⟩
    . rw[hφn];rfl
    . rw[hφn]
      show Value.pointer (some ⟨b,off,none⟩)=cS false [.pointer (some ⟨b,(c.toList.take off).length+0,none⟩)]
      rw[hpre];simp[cS]
  . have hq:q∈(CT.bptr n [] T).named:=hq
    simp only[CT.named,Zq] at hq
    subst hq
    exact List.mem_cons_self ..
theorem aHQ{objs:List (Nat×Obj)}{w w':World}{K Av':Nat->Prop}:(rs:List (Ty×Md))->(y:Res rs)->(n:Nat)->{vs:List Value}->{Hs:List (Nat->Prop)}->(φ1:Nat->dJ)->(ψ1:Nat->Nat->Prop)->aAv w' Av' rs y vs Hs->oJ Hs->
 (∀o,n<=o->o<(qE rs y n).n->find objs o=none)->
 ∃φ2 ψ2,Bk cx φ ψ objs w w' K Av' φ1 φ2 ψ1 ψ2 [] (qE rs y n).objs n (qE rs y n).n (kE Hs)/\(∀al,(qE rs y n).c.vals cx.P φ2 w' Av' al vs)/\(∀q∈(qE rs y n).c.named,q∈(qE rs y n).objs.map (·.1))/\(qE rs y n).c.deep=[]
 |[],y,n,vs,Hs,φ1,ψ1,h,_,_=>by
  obtain⟨rfl,rfl⟩:=h
  exact⟨φ1,ψ1,.none,fun _=>rfl,(fun q hq=>by cases hq),rfl⟩
 |(T,m)::rs,y,n,vs,Hs,φ1,ψ1,h,ha,hfr=>by
  obtain⟨v,u,H,Ks,rfl,rfl,h1,h2⟩:=h
  unfold oJ at ha
  rw[List.pairwise_cons] at ha
  have hle:=aDT rs y.2 (mkR m T y.1 n).n
  have hle1:=aM7 m T y.1 n
  have hfr:∀o,n<=o->o<(qE rs y.2 (mkR m T y.1 n).n).n->find objs o=none:=hfr
  obtain⟨φ2,ψ2,m1,v1,v1n,v1d⟩:=aNY (cx:=cx) (φ:=φ) (ψ:=ψ) (objs:=objs) (w:=w) (K:=K) m T y.1 n φ1 ψ1 h1 (fun o h3 h4=>hfr o h3 (by omega))
  obtain⟨φ3,ψ3,m2,v2,v3,v4⟩:=aHQ (objs:=objs) (w:=w) (K:=K) rs y.2 (mkR m T y.1 n).n φ2 ψ2 h2 ha.2 (fun o h3 h4=>hfr o (by omega) h4)
  refine⟨φ3,ψ3,m1.app m2 (by simp) (fun o ho=>by cases ho) hfr (fun q hq ⟨K,hK,hq'⟩=>ha.1 K hK q hq hq') (fun q hq=>⟨H,by simp,hq⟩) (fun q ⟨K,hK,hq⟩=>⟨K,by simp[hK],hq⟩),fun al=>⟨v,u,rfl,?_,v2 al⟩,fun q hq=>?_,?_⟩
  . refine aLS (v1 al) (fun q hq=>?_) v1d
    obtain⟨p,hp,rfl⟩:=List.mem_map.1 (v1n q hq)
    rcases m1.keys p hp with h3|h3
    . cases h3
    . exact m2.hφ _ (.inl h3.2)
  . simp only[qE,CT.named,Zp,List.map_append] at hq ⊢
    exact hq.imp (v1n q) (v3 q)
  . simp only[qE,CT.deep,v1d,v4,List.append_nil]
theorem aFR{P:Program}{φ:Nat->dJ}{w:World}{Av al:Nat->Prop}{c:CT}{vs:List Value}(h:c.vals P φ w Av al vs):(aD2 c).rep P φ w Av al (aGc vs):=by
 cases c with
 |pair c d=>
  obtain⟨v,r,rfl,h1,h2⟩:=h
  cases d with
  |unit=>
   have h2':r=[]:=h2
   subst h2'
   exact h1
  |pair d e=>
   obtain⟨v',r',rfl,h3,h4⟩:=h2
   exact⟨v::v'::r',rfl,v,v'::r',rfl,h1,v',r',rfl,h3,h4⟩
  |_=>exact h2.elim
 |unit=>
  have h':vs=[]:=h
  subst h'
  exact⟨[],rfl,rfl⟩
 |_=>exact h.elim
theorem aI3(c:CT):∀q∈(aD2 c).named,q∈c.named:=by
 intro q hq
 cases c with
 |pair c d=>
  cases d with
  |unit=>simp only[aD2,SV.named] at hq;simp only[CT.named,Zp];exact .inl hq
  |_=>exact hq
 |_=>exact hq
theorem aE9{f:FuncId}{s:FS}{cs:List CT}{vs:List Value}{n:Nat}{args:Array Value}(hE:aS cx.P E)(hO:iH cx φ ψ Av σ.objs w)(hS:kV cx.P φ Av σ tmps w)
 (hsd:∀(Av:Nat->Prop) (xs:oC s.ps) (Fs:List (Nat->Prop)),xQ cx.P w Av s.ps xs vs Fs->oJ Fs->(∀b,Av b->b<w.heap.size/\¬kE Fs b)->(∀q,kE Fs q->q<w.heap.size)->s.pre xs=true->Calls cx.P f args w (aMG w Av s xs vs Fs))
 (hr:oP cx φ w Av σ.objs cs vs)
 (he:(aDc E.fs s cs n).ev (find σ.objs)=some e):Calls cx.P f args w fun d w'=>∃v,d=.returned v/\aGd cx σ tmps e v w':=by
 unfold aDc at he
 obtain⟨r,h1,he⟩:=aG he
 rw[Zi] at he
 split at he
 . rename_i hc
   simp only[Zb,Bool.not_eq_true'] at hc
   obtain⟨hnd,hug⟩:=hc
   have hnd:=rA _ hnd
   have hug:∀o∈r.use,o∉r.go:=by
    intro o ho hg
    have:(r.use.any fun o=>r.go.any fun q=>Nat.beq q o)=true:=List.any_eq_true.2 ⟨o,ho,List.any_eq_true.2 ⟨o,hg,by simp⟩⟩
    rw[hug] at this;cases this
   obtain⟨hpre,he⟩:=gM he
   generalize hfrz:(uQ s.rs||nP s.ps)=frz at h1
   obtain⟨Fs,ok⟩:=pB hE hO (AvC:=fun b=>Av b\/(frz=false/\Of φ ψ σ.objs r.use b)) (fun b hb=>.inl hb) (fun b hb=>hb.elim (fun h=>(hO.av b h).1) fun h=>by
    obtain⟨o,x,_,ho,hq⟩:=h.2
    exact(hO.own o x ho b hq).1) s.ps cs vs h1 hnd (fun h b hb=>.inr ⟨h,hb⟩) hr
   refine Calls.mono (hsd (fun b=>Av b\/(frz=false/\Of φ ψ σ.objs r.use b)) r.xs Fs ok.rep ok.ap (fun b hb=>⟨?_,fun hq=>?_⟩) (fun q hq=>?_) hpre) fun d w' hp=>?_
   . rcases hb with hb|⟨_,o,x,_,hx,hb⟩
     . exact(hO.av b hb).1
     . exact(hO.own o x hx b hb).1
   . obtain⟨o,x,ho,hx,hbx⟩:=ok.fp b hq
     rcases hb with hb|⟨_,o',x',ho',hx',hb⟩
     . exact(hO.av b hb).2.1 o x hx hbx
     . refine hO.disj o x o' x' hx hx' ?_ b hbx hb
       rintro rfl;exact hug o ho' ho
   . obtain⟨o,x,ho,hx,hbx⟩:=ok.fp q hq
     exact(hO.own o x hx q hbx).1
   . obtain⟨rv,Gs,Hs,Av2,rfl,ho,hres,hap,hq,hA2,hfr,hsz⟩:=hp
     refine⟨_,rfl,?_⟩
     generalize s.fn r.xs=oy at he ho hres
     obtain⟨out,y⟩:=oy
     simp only[] at he ho hres
     have hle1:=ok.mono out n
     have hle2:=aDT s.rs y (r.back out n).2
     have he':((vY (aCO n ((qE s.rs y (r.back out n).2).n-n))).bind fun _=>
      bif r.kl.isEmpty then M.ret (⟨aD2 (qE s.rs y (r.back out n).2).c,(r.back out n).1++(qE s.rs y (r.back out n).2).objs,none⟩:uM)
      else bif ((r.back out n).1++(qE s.rs y (r.back out n).2).objs).all (fun p=>p.2.noBox) then M.ret (⟨aD2 (qE s.rs y (r.back out n).2).c,(r.back out n).1++(qE s.rs y (r.back out n).2).objs,some r.kl⟩:uM) else .fail).ev (find σ.objs)=some e:=he
     obtain⟨u,hfresh,he2⟩:=aG he'
     have hup:=aEc _ _ hfresh
     have hup':∀o,n<=o->o<(qE s.rs y (r.back out n).2).n->find σ.objs o=none/\o<10000000:=fun o h1 h2=>hup o h1 (by omega)
     unfold oJ at hap
     rw[List.pairwise_append] at hap
     have hconv:(∀b,Av2 b->(Av b\/(frz=true/\Av2 b)))\/(uQ s.rs=false/\nP s.ps=false):=by
      cases frz with
      |true=>exact .inl fun b hb=>.inr ⟨rfl,hb⟩
      |false=>exact .inr (Bool.or_eq_false_iff.1 hfrz)
     have ho':=oM (B:=fun b=>Av b\/(frz=true/\Av2 b)) s.ps (hconv.imp id (·.2)) out ho
     have hres':=aD0 (B:=fun b=>Av b\/(frz=true/\Av2 b)) s.rs (hconv.imp id (·.1)) y hres
     obtain⟨φ2,ψ2,b1⟩:=ok.back w' (fun b=>Av b\/(frz=true/\Av2 b)) (·∈r.kl) (kE Fs) n φ ψ out Gs (fun _ _=>rfl) ho' hap.1 (fun o h1 h2=>(hup' o h1 (by omega)).1) (fun _ h=>h) (fun _ _ h=>h) (fun q hq'=>(hq q (by obtain⟨G,hG,h⟩:=hq';exact⟨G,Zp.2 (.inl hG),h⟩)).2) hfr
     obtain⟨φ3,ψ3,b2,v1,v2,v3⟩:=aHQ (cx:=cx) (φ:=φ) (ψ:=ψ) (objs:=σ.objs) (w:=w) (K:=(·∈r.kl)) s.rs y (r.back out n).2 φ2 ψ2 hres' hap.2.1 (fun o h1 h2=>(hup' o (by omega) h2).1)
     have lt:∀l q,Of φ ψ σ.objs l q->q<w.heap.size:=fun l q ⟨o,x,_,ho,hq⟩=>(hO.own o x ho q hq).1
     have bk:=b1.app (G:=fun q=>kE (Gs++Hs) q\/(Of φ ψ σ.objs r.go q/\¬kE Fs q)) b2 (by simpa using hnd) (fun o ho=>ok.go o (by simpa using ho)) (fun o h1 h2=>(hup' o h1 h2).1) (fun q hq1 ⟨H,hH,h2⟩=>by
      rcases hq1 with⟨G,hG,h1⟩|⟨h1,hna⟩
      . exact hap.2.2 G hG H hH q h1 h2
      . rcases(hq q ⟨H,Zp.2 (.inr hH),h2⟩).2 with h3|h3
        . exact hna h3
        . have:=lt _ _ h1;omega)
      (fun q hq1=>hq1.imp (fun⟨G,hG,h1⟩=>⟨G,Zp.2 (.inl hG),h1⟩) id) (fun q ⟨G,hG,h1⟩=>.inl ⟨G,Zp.2 (.inr hG),h1⟩)
     rw[List.append_nil] at bk
     have hw1:∀q,q<w.heap.size->¬Of φ ψ σ.objs r.go q->w'.heap[q]?=w.heap[q]?:=fun q hq hno=>hfr q hq fun h=>hno (ok.fp q h)
     have hG1:∀q,kE (Gs++Hs) q\/(Of φ ψ σ.objs r.go q/\¬kE Fs q)->q<w'.heap.size/\(w.heap.size<=q\/Of φ ψ σ.objs r.go q):=fun q hq'=>by
      rcases hq' with hq'|⟨h1,_⟩
      . obtain⟨h1,h2⟩:=hq q hq'
        exact⟨h1,h2.symm.imp id (ok.fp q)⟩
      . exact⟨Nat.lt_of_lt_of_le (lt _ _ h1) hsz.size,.inr h1⟩
     have hA1:∀q,(frz=true/\Av2 q)->q<w'.heap.size/\¬(kE (Gs++Hs) q\/(Of φ ψ σ.objs r.go q/\¬kE Fs q))/\(Av q\/Of φ ψ σ.objs r.go q\/w.heap.size<=q):=fun q hq'=>by
      obtain⟨h1,h2,h3⟩:=hA2 q hq'.2
      have h3':Av q\/kE Fs q\/w.heap.size<=q:=by
       rcases h3 with h3|h3|h3
       . rcases h3 with h3|h3
         . exact .inl h3
         . have hfz:=hq'.1
           rw[h3.1] at hfz;cases hfz
       . exact .inr (.inl h3)
       . exact .inr (.inr h3)
      refine⟨h1,fun h4=>?_,h3'.imp id (.imp (ok.fp q) id)⟩
      rcases h4 with h4|⟨h4,h5⟩
      . exact h2 h4
      . rcases h3' with h6|h6|h6
        . obtain⟨o,x,_,ho,hb⟩:=h4
          exact(hO.av q h6).2.1 o x ho hb
        . exact h5 h6
        . have:=lt _ _ h4;omega
     have hvn:∀q∈(aD2 (qE s.rs y (r.back out n).2).c).named,q∈((r.back out n).1++(qE s.rs y (r.back out n).2).objs).map (·.1):=fun q hq=>by
      rw[List.map_append,Zp]
      exact .inr (v2 q (aI3 _ q hq))
     rw[Zi] at he2
     split at he2
     . rename_i hkl
       simp only[M.ev,Zc] at he2
       have hkl:r.kl=[]:=by simpa using hkl
       exact aK8 (K:=(·∈r.kl)) hO hS bk ok.go hup' hsz hw1 hG1 hA1 (by rw[hkl];exact⟨fun _ _ _ _ _ h=>(by cases h),fun _ _ _ _ _ h=>(by cases h)⟩) he2.symm (fun al=>aFR (v1 al)) hvn
     . rw[Zi] at he2
       split at he2
       . rename_i hall
         simp only[M.ev,Zc] at he2
         have hall:∀p∈(r.back out n).1++(qE s.rs y (r.back out n).2).objs,p.2.noBox=true:=fun p hp=>Zu.1 hall p hp
         rw[<-he2]
         refine aIo bk.nod hall ?_
         refine aK8 (K:=(·∈r.kl)) (σ:=⟨σ.slots.map (SV.kill r.kl),killed r.kl σ.objs⟩) (hO.kill r.kl) (kV.kill (slots:=σ.slots) (objs:=σ.objs) hS r.kl) (bk.killed hall) (fun o ho=>?_) (fun o h1 h2=>⟨?_,(hup' o h1 h2).2⟩) hsz
          (fun q hq hno=>hw1 q hq fun h=>hno (aGm.2 h)) (fun q hq'=>?_) (fun q hq'=>?_) ⟨fun o x hx q hq=>?_,fun t x hx q hq=>?_⟩ rfl (fun al=>aFR (v1 al)) hvn
         . unfold keys;rw[aCT];exact ok.go o ho
         . have h3:=(hup' o h1 h2).1
           have h4:=aCT (objs:=σ.objs) (kl:=r.kl) (o:=o)
           rw[h3] at h4
           cases hz:find (killed r.kl σ.objs) o with
           |none=>rfl
           |some z=>rw[hz] at h4;cases h4
         . rw[aGm];exact hG1 q hq'
         . rw[aGm];exact hA1 q hq'
         . have hx:find (σ.objs.map fun p=>(p.1,p.2.kill r.kl)) o=some x:=hx
           rw[lJ] at hx
           cases hz:find σ.objs o with
           |none=>rw[hz] at hx;cases hx
           |some z=>
            rw[hz] at hx
            simp only[Option.map_some,Zc] at hx
            rw[<-hx] at hq
            exact aEp r.kl z q hq
         . have hx:(σ.slots.map (SV.kill r.kl))[t]?=some x:=hx
           rw[List.getElem?_map] at hx
           cases hz:σ.slots[t]? with
           |none=>rw[hz] at hx;cases hx
           |some z=>
            rw[hz] at hx
            simp only[Option.map_some,Zc] at hx
            rw[<-hx] at hq
            exact aDH r.kl z q hq
       . cases he2
 . cases he
theorem aI6{f:FuncId}{s:FS}{cs:List CT}{vs:List Value}{n:Nat}(hE:aS cx.P E)(hO:iH cx φ ψ Av σ.objs w)(hS:kV cx.P φ Av σ tmps w)(hf:E.fs f=some s)(hr:oP cx φ w Av σ.objs cs vs)
 (he:(aDc E.fs s cs n).ev (find σ.objs)=some e):Calls cx.P f vs.toArray w fun d w'=>∃v,d=.returned v/\aGd cx σ tmps e v w':=
 aE9 hE hO hS (fun Av xs Fs=>(hE.fs f s hf).1 w Av vs xs Fs) hr he
def CT.bval(φ:Nat->dJ):CT->Value
 |.bptr o p _=>.pointer (some ⟨(φ o).b,(φ o).pre.length+(φ o).T.offp p,none⟩)
 |_=>Go.undef
theorem aGC{c d:CT}(h:c.same d=true):c=d/\∃o p T,c=.bptr o p T:=by
 cases c with
 |bptr o p T=>
  cases d with
  |bptr o' p' T'=>
   simp only[CT.same,Zb,Nat.beq_eq,Za] at h
   obtain⟨⟨rfl,rfl⟩,rfl⟩:=h
   exact⟨rfl,_,_,_,rfl⟩
  |_=>cases h
 |_=>cases h
theorem yM{P:Program}{φ:Nat->dJ}{al:Nat->Prop}{o:Nat}{p:List Nat}{T:Ty}{v:Value}(h:(CT.bptr o p T).val P φ w Av al v):v=(CT.bptr o p T).bval φ:=by
 obtain⟨cs,⟨_,rfl⟩,rfl⟩:=h
 rfl
def aIF(cx:Cx)(φ:Nat->dJ)(w:World)(Av:Nat->Prop)(objs:List (Nat×Obj))(c:CT):Prop:=
 ∀o p T,c=.bptr o p T->c.val cx.P φ w Av (bH objs) (c.bval φ)/\∀q∈c.named,keys objs q
theorem aBx{objs:List (Nat×Obj)}:(cs:List CT)->{vs:List Value}->oP cx φ w Av objs cs vs->(i:Nat)->(aBb cs i=.undef\/∃v,(aBb cs i).val cx.P φ w Av (bH objs) v/\∀q∈(aBb cs i).named,keys objs q)
 |[],vs,h,i=>.inl rfl
 |c::cs,vs,h,0=>by
  obtain⟨v,r,_,h1,h2,_⟩:=h
  exact .inr ⟨v,h1,h2⟩
 |c::cs,vs,h,i+1=>by
  obtain⟨v,r,_,_,_,h3⟩:=h
  exact aBx cs h3 i
theorem aMP{objs:List (Nat×Obj)}{c:CT}(h:c=.undef\/∃v,c.val cx.P φ w Av (bH objs) v/\∀q∈c.named,keys objs q):aIF cx φ w Av objs c:=by
 rintro o p T rfl
 rcases h with h|⟨v,h1,h2⟩
 . cases h
 . have:=yM h1
   subst this
   exact⟨h1,h2⟩
theorem aIk{objs:List (Nat×Obj)}:(c:CT)->{us:List Value}->c.caps cx.P φ w Av (bH objs) us->(∀q∈c.named,keys objs q)->(j:Nat)->aIF cx φ w Av objs (aBb (vX c) j)
 |.pair a b,us,h,hk,0=>by
  obtain⟨v,r,rfl,⟨cs,h1,rfl⟩,h2⟩:=h
  intro o p T he
  have he:a=.bptr o p T:=he
  subst he
  have hv:(CT.bptr o p T).val cx.P φ w Av (bH objs) (cS (CT.bptr o p T).isSt cs):=⟨cs,h1,rfl⟩
  have:=yM hv
  rw[this] at hv
  exact⟨hv,fun q hq=>hk q (by simp only[CT.named,Zp];exact .inl hq)⟩
 |.pair a b,us,h,hk,j+1=>by
  obtain⟨v,r,rfl,_,h2⟩:=h
  exact aIk b h2 (fun q hq=>hk q (by simp only[CT.named,Zp];exact .inr hq)) j
 |.undef,_,_,_,j=>fun o p T he=>by cases j<;>cases he
 |.skip,_,_,_,j=>fun o p T he=>by cases j<;>cases he
 |.nil,_,_,_,j=>fun o p T he=>by cases j<;>cases he
 |.unit,_,_,_,j=>fun o p T he=>by cases j<;>cases he
 |.dat _ _,_,_,_,j=>fun o p T he=>by cases j<;>cases he
 |.arr _,_,_,_,j=>fun o p T he=>by cases j<;>cases he
 |.sub _ _ _,_,_,_,j=>fun o p T he=>by cases j<;>cases he
 |.bor _ _,_,_,_,j=>fun o p T he=>by cases j<;>cases he
 |.bptr _ _ _,_,_,_,j=>fun o p T he=>by cases j<;>cases he
 |.eptr _ _ _,_,_,_,j=>fun o p T he=>by cases j<;>cases he
 |.dptr _ _,_,_,_,j=>fun o p T he=>by cases j<;>cases he
 |.clo _ _,_,_,_,j=>fun o p T he=>by cases j<;>cases he
 |.fn _ _ _ _,_,_,_,j=>fun o p T he=>by cases j<;>cases he
theorem aMy{objs:List (Nat×Obj)}{cs acc:List CT}{vs:List Value}{s:Sr}{c:CT}(hO:iH cx φ ψ Av objs w)(hr:oP cx φ w Av objs cs vs)(h:(aM3 cs acc s).ev (find objs)=some c):aIF cx φ w Av objs c:=by
 cases s with
 |arg i=>
  simp only[aM3,M.ev,Zc] at h
  subst h
  exact aMP (aBx cs hr i)
 |cap i j=>
  simp only[aM3] at h
  split at h
  . rename_i f caps hc
    simp only[M.ev,Zc] at h
    subst h
    rcases aBx cs hr i with hu|⟨v,h1,h2⟩
    . rw[hu] at hc;cases hc
    . rw[hc] at h1 h2
      obtain⟨_,⟨us,rfl,hcaps⟩,_⟩:=h1
      exact aIk caps hcaps h2 j
  . cases h
 |of j=>
  simp only[aM3] at h
  split at h
  . simp only[M.ev] at h
    split at h
    . rename_i V c0 ho
      simp only[M.ev,Zc] at h
      subst h
      obtain⟨g1,g2,mid,g3,g4,g5⟩:=hO.reps _ _ ho
      rintro o p T rfl
      obtain⟨k1,k2⟩:=g3
      exact⟨⟨_,⟨k1,rfl⟩,rfl⟩,fun q hq=>hO.names _ _ ho q hq⟩
    . cases h
  . cases h
theorem aIf{objs:List (Nat×Obj)}{cs:List CT}{vs:List Value}(hO:iH cx φ ψ Av objs w)(hr:oP cx φ w Av objs cs vs):(l:List Sr)->{acc fl:List CT}->(aJU cs l acc).ev (find objs)=some fl->(∀c∈acc,aIF cx φ w Av objs c)->
 ∀c∈fl,aIF cx φ w Av objs c
 |[],acc,fl,h,ha=>by
  simp only[aJU,M.ev,Zc] at h
  subst h;exact ha
 |s::r,acc,fl,h,ha=>by
  obtain⟨c,h1,h2⟩:=aG h
  refine aIf hO hr r h2 fun d hd=>?_
  rcases Zp.1 hd with hd|hd
  . exact ha d hd
  . simp only[Zq] at hd
    subst hd
    exact aMy hO hr h1
theorem aE4{objs:List (Nat×Obj)}:(fl:List CT)->aJ0 fl=true->(∀c∈fl,aIF cx φ w Av objs c)->oP cx φ w Av objs fl (fl.map (CT.bval φ))
 |[],_,_=>rfl
 |c::r,h,hr=>by
  cases c with
  |bptr o p T=>
   obtain⟨h1,h2⟩:=hr _ (List.mem_cons_self ..) o p T rfl
   exact⟨_,_,rfl,h1,h2,aE4 r h fun c hc=>hr c (Zo _ hc)⟩
  |_=>cases h
theorem aCb:(fl:List CT)->{k:Nat}->{o:Nat}->{p:List Nat}->{T:Ty}->aBb fl k=.bptr o p T->(fl.map (CT.bval φ)).getD k undef=(CT.bptr o p T).bval φ
 |[],k,_,_,_,h=>by cases k<;>cases h
 |c::r,0,o,p,T,h=>by
  have h:c=.bptr o p T:=h
  subst h;rfl
 |c::r,k+1,o,p,T,h=>aCb r (k:=k) h
theorem aG4{objs:List (Nat×Obj)}{fl:List CT}:(c:CT)->(ks:List Nat)->{us:List Value}->c.caps cx.P φ w Av (bH objs) us->aDz (vX c) (ks.map (aBb fl))=true->us=ks.map fun k=>(fl.map (CT.bval φ)).getD k undef
 |.pair a b,[],us,h,hs=>by cases hs
 |.pair a b,k::ks,us,h,hs=>by
  obtain⟨v,r,rfl,⟨cs,h1,rfl⟩,h2⟩:=h
  have hs:(a.same (aBb fl k)&&aDz (vX b) (ks.map (aBb fl)))=true:=hs
  simp only[Zb] at hs
  obtain⟨he,o,p,T,rfl⟩:=aGC hs.1
  have hv:(CT.bptr o p T).val cx.P φ w Av (bH objs) (cS (CT.bptr o p T).isSt cs):=⟨cs,h1,rfl⟩
  rw[yM hv,aG4 b ks h2 hs.2,List.map_cons,aCb fl he.symm]
 |.unit,[],us,h,hs=>h
 |.unit,_::_,us,h,hs=>by cases hs
 |.undef,[],us,h,hs=>h
 |.undef,_::_,us,h,hs=>by cases hs
 |.skip,[],us,h,hs=>h
 |.skip,_::_,us,h,hs=>by cases hs
 |.nil,[],us,h,hs=>h
 |.nil,_::_,us,h,hs=>by cases hs
 |.dat _ _,[],us,h,hs=>h
 |.dat _ _,_::_,us,h,hs=>by cases hs
 |.arr _,[],us,h,hs=>h
 |.arr _,_::_,us,h,hs=>by cases hs
 |.sub _ _ _,[],us,h,hs=>h
 |.sub _ _ _,_::_,us,h,hs=>by cases hs
 |.bor _ _,[],us,h,hs=>h
 |.bor _ _,_::_,us,h,hs=>by cases hs
 |.bptr _ _ _,[],us,h,hs=>h
 |.bptr _ _ _,_::_,us,h,hs=>by cases hs
 |.eptr _ _ _,[],us,h,hs=>h
 |.eptr _ _ _,_::_,us,h,hs=>by cases hs
 |.dptr _ _,[],us,h,hs=>h
 |.dptr _ _,_::_,us,h,hs=>by cases hs
 |.clo _ _,[],us,h,hs=>h
 |.clo _ _,_::_,us,h,hs=>by cases hs
 |.fn _ _ _ _,[],us,h,hs=>h
 |.fn _ _ _ _,_::_,us,h,hs=>by cases hs
theorem aFK{objs:List (Nat×Obj)}{fl:List CT}:(real:List Wi)->(cs:List CT)->{vs:List Value}->oP cx φ w Av objs cs vs->aCh fl real cs=true->vs=real.map (Wi.val (fl.map (CT.bval φ)))
 |[],[],vs,h,hw=>h
 |[],_::_,vs,h,hw=>by cases hw
 |_::_,[],vs,h,hw=>by cases hw
 |a::r,c::cs,vs,h,hw=>by
  obtain⟨v,us,rfl,hv,hk,h2⟩:=h
  simp only[aCh,Zb] at hw
  rw[aFK r cs h2 hw.2,List.map_cons]
  congr 1
  have hw1:=hw.1
  cases a with
  |par k=>
   simp only[Wi.fits] at hw1
   obtain⟨he,o,p,T,rfl⟩:=aGC hw1
   rw[yM hv]
   show _=(fl.map (CT.bval φ)).getD k undef
   rw[aCb fl he.symm]
  |clo f ks=>
   cases c with
   |clo g caps=>
    simp only[Wi.fits,Zb,Nat.beq_eq] at hw1
    obtain⟨rfl,hs⟩:=hw1
    obtain⟨_,⟨us',rfl,hcaps⟩,rfl⟩:=hv
    have:=aG4 caps ks hcaps hs
    subst this
    rfl
   |_=>cases hw1
theorem sH{objs:List (Nat×Obj)}{fl:List CT}(hO:iH cx φ ψ Av objs w):(ps:List PM)->(cs:List CT)->{u:Unit}->(aE2 fl ps cs).ev (find objs)=some u->(∀c∈cs,aIF cx φ w Av objs c)->aCt w (fl.map (CT.bval φ)) ps (cs.map (CT.bval φ))
 |[],cs,u,h,hr=>trivial
 |.cell k T::ps,[],u,h,hr=>by cases h
 |.cell k T::ps,c::cs,u,h,hr=>by
  cases c with
  |bptr o p U=>
   simp only[aE2,M.ev] at h
   split at h
   . rename_i V c0 ho
     rw[Zi] at h
     split at h
     . rename_i hc
       simp only[Zb,List.isEmpty_iff] at hc
       obtain⟨rfl,hs⟩:=hc
       obtain⟨he,o',p',T',rfl⟩:=aGC hs
       obtain⟨g1,g2,mid,g3,g4,g5⟩:=hO.reps _ _ ho
       obtain⟨k1,rfl⟩:=g3
       refine⟨⟨(φ o).b,(φ o).pre.length,(φ o).pre++[(CT.bptr o' p' T').bval φ]++(φ o).post,by simp[CT.bval,Ty.offp],by simp[blk,g4,CT.bval],?_⟩,sH hO ps cs h fun c hc=>hr c (Zo _ hc)⟩
       rw[aCb fl he.symm,Zk,List.getElem?_append_right (Nat.le_refl _),Nat.sub_self]
       rfl
     . cases h
   . cases h
  |_=>cases h
 |.val _ _::ps,[],u,h,hr=>by cases h
 |.val _ _::ps,c::cs,u,h,hr=>sH hO ps cs h fun c hc=>hr c (Zo _ hc)
 |.mut _::ps,[],u,h,hr=>by cases h
 |.mut _::ps,c::cs,u,h,hr=>sH hO ps cs h fun c hc=>hr c (Zo _ hc)
 |.ref _ _::ps,[],u,h,hr=>by cases h
 |.ref _ _::ps,c::cs,u,h,hr=>sH hO ps cs h fun c hc=>hr c (Zo _ hc)
 |.fn _ _::ps,[],u,h,hr=>by cases h
 |.fn _ _::ps,c::cs,u,h,hr=>sH hO ps cs h fun c hc=>hr c (Zo _ hc)
 |.peek _::ps,[],u,h,hr=>by cases h
 |.peek _::ps,c::cs,u,h,hr=>sH hO ps cs h fun c hc=>hr c (Zo _ hc)
 |.nil _ _::ps,[],u,h,hr=>by cases h
 |.nil _ _::ps,c::cs,u,h,hr=>sH hO ps cs h fun c hc=>hr c (Zo _ hc)
theorem aIB{f g:FuncId}{en:uX}{cs:List CT}{vs:List Value}{n:Nat}(hE:aS cx.P E)(hO:iH cx φ ψ Av σ.objs w)(hS:kV cx.P φ Av σ tmps w)(hf:E.fw f g=some en)(hr:oP cx φ w Av σ.objs cs vs)
 (he:(aIq E.fs en cs n).ev (find σ.objs)=some e):Calls cx.P f vs.toArray w fun d w'=>∃v,d=.returned v/\aGd cx σ tmps e v w':=by
 obtain⟨fl,h1,h2⟩:=aG he
 rw[Zi] at h2
 split at h2
 . rename_i hc
   simp only[Zb] at hc
   obtain⟨u,h3,h4⟩:=aG h2
   have hall:=aIf hO hr en.src h1 (fun c hc=>by cases hc)
   have hfl:=aE4 fl hc.2 hall
   have hcells:=sH hO en.s.ps fl h3 hall
   rw[aFK en.real cs hr hc.1]
   exact aE9 hE hO hS (fun Av xs Fs a1 a2 a3 a4 a5=>(hE.fw f g en hf).1 w Av _ xs Fs a1 a2 a3 a4 hcells a5) hfl h4
 . cases h2
end
section
variable {cx:Cx} {φ:Nat->dJ} {ψ:Nat->Nat->Prop} {w:World} {Av:Nat->Prop} {σ:St} {tmps:Array Value} {E:eI} {e:uM}
theorem aJc{t:TypeId}{T:Ty}{x:T.D}{xs:List T.D}{h:Value}{k m:Nat}{F:Nat->Prop}(hh:aLf h m)(hk:k+(xs.length+1)=m)(hr:qW w (.sl t T) (x::xs) [rest h k T.sz] F):
 ∃b off cap c EE fr,∃F1 F2:Nat->Prop,h=.slice (some ⟨b,off,none⟩) m cap/\w.heap[b]?=some (.cells c EE fr)/\off+m*T.sz<=c.size/\qW w T x (fX c.toList (off+k*T.sz) T.sz) F1/\
  qW w (.sl t T) xs [rest h (k+1) T.sz] F2/\(∀q,F1 q->F q)/\(∀q,F2 q->F q)/\∀q,F1 q->¬F2 q:=by
 rcases hh.2 with⟨b,off,cap,rfl⟩|⟨rfl,rfl⟩
 . simp only[rest] at hr ⊢
   rcases hr with⟨h1,_⟩|⟨b',off',cap',c,EE,fr,Fs,h1,h2,h3,h4,h5,h6,h7,h8,h9,h10⟩
   . simp at h1
   . simp only[List.cons.injEq,and_true,Value.slice.injEq,Zc,Addr.mk.injEq,Zg] at h1
     obtain⟨⟨rfl,rfl⟩,_,rfl⟩:=h1
     simp only[Zg] at h3 h7 h8 h9
     have e1:cap-k=(cap-(k+1))+1:=by omega
     have e2:(cap-k)*T.sz=(cap-(k+1))*T.sz+T.sz:=by rw[e1,Nat.add_mul,Nat.one_mul]
     have e3:(k+1)*T.sz=k*T.sz+T.sz:=by rw[Nat.add_mul,Nat.one_mul]
     have e4:m*T.sz=k*T.sz+(m-k)*T.sz:=by rw[<-Nat.add_mul];congr 1;omega
     have e5:(m-k)*T.sz<=(cap-k)*T.sz:=Nat.mul_le_mul_right _ (by omega)
     refine⟨b,off,cap,c,EE,fr,Fs 0,fun q=>q=b\/∃i,i<xs.length/\Fs (i+1) q,rfl,h2,by omega,?_,?_,fun q hq=>(h7 q).2 (.inr ⟨0,by omega,hq⟩),fun q hq=>(h7 q).2 ?_,fun q hq hq'=>?_⟩
     . have:=h10 0 x rfl
       rwa [Nat.zero_mul,Nat.add_zero] at this
     . refine .inr ⟨b,off+(k+1)*T.sz,cap-(k+1),c,EE,fr,fun i=>Fs (i+1),?_,h2,?_,⟨Nat.le_trans (by omega) h4.1,h4.2⟩,by omega,tC h6 (by omega) (by omega),fun q=>Iff.rfl,?_,?_,?_⟩
       . rw[show m-(k+1)=xs.length by omega]
       . omega
       . exact fun i hi=>h8 (i+1) (by omega)
       . exact fun i j q hi hj hij=>h9 (i+1) (j+1) q (by omega) (by omega) (by omega)
       . intro i y hy
         have:=h10 (i+1) y hy
         have e6:(i+1)*T.sz=i*T.sz+T.sz:=by rw[Nat.add_mul,Nat.one_mul]
         rw[show off+(k+1)*T.sz+i*T.sz=off+k*T.sz+(i+1)*T.sz by omega]
         exact this
     . rcases hq with rfl|⟨i,hi,hq⟩
       . exact .inl rfl
       . exact .inr ⟨i+1,by omega,hq⟩
     . rcases hq' with rfl|⟨i,hi,hq'⟩
       . exact h8 0 (by omega) hq
       . exact h9 0 (i+1) q (by omega) (by omega) (by omega) hq hq'
 . omega
theorem aMn{t:TypeId}{T:Ty}{o:Nat}{p:List qR}{u:TypeId}{e1:Ty}{m n:Nat}{xs:List e1.D}{v:Value}(hE:aS cx.P E)(hO:iH cx φ ψ Av σ.objs w)(hS:kV cx.P φ Av σ tmps w)
 (hT:E.ty t=some T) (ho:find σ.objs o=some (.rng u e1 m xs)) (hx:(CT.eptr o p T).val cx.P φ w Av (bH σ.objs) v) (he:(aIn T o p u e1 m xs n).ev (find σ.objs)=some e):wK cx σ tmps (Instr.loadAt t v) w e:=by
 unfold aIn at he
 split at he
 . rename_i k
   obtain⟨ys,g0,he⟩:=aG he
   obtain⟨eT,rfl⟩:=iJ g0
   cases eT
   obtain⟨c1,he⟩:=gM he
   obtain⟨c2,he⟩:=gM he
   have c1:k+length (α:=T.D) xs=m:=Ze c1
   have c2:(0:Int)<((length (α:=T.D) xs:Nat):Int):=Ze c2
   cases xs with
   |nil=>exact absurd c2 (by simp)
   |cons x tl=>
    obtain⟨hee,hh,_,hr⟩:=hO.reps o _ ho
    rw[show m-length (α:=T.D) (x::tl)=k by omega] at hr
    obtain⟨b,off,cap,c,EE,fr,F1,F2,k1,k2,k3,k4,k5,k6,k7,k8⟩:=aJc hh c1 hr
    obtain⟨cs,⟨ad,rfl,h1⟩,rfl⟩:=hx
    obtain⟨b',off',h2,rfl⟩:=h1 (.inr rfl)
    have hkm:k<m:=by simp only[Zg] at c1;omega
    unfold rC at h2
    simp only[k1,if_pos hkm,rX,hee,Zc,Prod.mk.injEq] at h2
    obtain⟨_,rfl,rfl⟩:=h2
    have e4:k*T.sz+T.sz<=m*T.sz:=dT hkm
    have hld:=zL (hE.ty _ _ hT) (pV k2) (off:=off+k*T.sz) (by rw[Array.length_toList];omega) (P:=cx.P) (w:=w)
    have hg:List.getD (α:=T.D) (x::tl) 0 T.zero=x:=rfl
    simp only[hg] at he
    obtain⟨φ',ψ',m1,vl⟩:=yY (P:=cx.P) (Av:=Av) T x n φ (fup ψ o F2) k4
    have hnn:=aCa T x n
    generalize nH T x n=r at he m1 vl hnn
    obtain⟨c0,l,n'⟩:=r
    simp only[] at he m1 vl hnn
    obtain⟨_,hfr,he⟩:=aG he
    simp only[M.ev,Zc] at he
    subst he
    have hfr:∀q,n<=q->q<n'->find σ.objs q=none/\q<10000000:=fun q h1 h2=>aEc (n'-n) n hfr q h1 (by omega)
    have hlk:∀q,q∈l.map (·.1)->find σ.objs q=none/\q<10000000:=by
     intro q hq
     obtain⟨pr,hp,rfl⟩:=List.mem_map.1 hq
     exact hfr _ (m1.keys pr hp).1 (m1.keys pr hp).2
    have hol:o∉l.map (·.1):=fun h=>by rw[(hlk o h).1] at ho;cases ho
    have hnod:(((o,Obj.rng u T m tl)::l).map (·.1)).Nodup:=by rw[List.map_cons,List.nodup_cons];exact⟨hol,m1.nod⟩
    have hno:o<n\/n'<=o:=by
     rcases Nat.lt_or_ge o n with h|h
     . exact .inl h
     . rcases Nat.lt_or_ge o n' with h'|h'
       . rw[(hfr o h h').1] at ho;cases ho
       . exact .inr h'
    have hno':∀q,(find σ.objs q).isSome=true\/10000000<=q->q<n\/n'<=q:=by
     intro q hq
     rcases Nat.lt_or_ge q n with h|h
     . exact .inl h
     . rcases Nat.lt_or_ge q n' with h'|h'
       . rcases hq with hq|hq
         . rw[(hfr q h h').1] at hq;cases hq
         . have:=(hfr q h h').2;omega
       . exact .inr h'
    have hψo:ψ' o=F2:=by rw[m1.hψ o hno,fH]
    have hfu:∀q X,find ((o,Obj.rng u T m tl)::l) q=some X->(q=o/\X=.rng u T m tl)\/(q≠o/\(q,X)∈l):=by
     intro q X hX
     simp only[find,Zi,Nat.beq_eq] at hX
     split at hX
     . rename_i hq;simp only[Zc] at hX;exact .inl ⟨hq.symm,hX.symm⟩
     . rename_i hq;exact .inr ⟨fun h=>hq h.symm,iW hX⟩
    have hnarr:∀q X,(q,X)∈l->∃t e' ys,X=Obj.arr t e' ys/\(φ' q).e=e'/\qW w (.sl t e') ys [(φ' q).hdr] (ψ' q):=fun q X hX=>m1.arr _ hX
    have hob:∀q X,(q,X)∈l->∀b,kL φ' ψ' q X b->ψ' q b:=by
     intro q X hX b hb
     obtain⟨t,e',ys,rfl,_⟩:=hnarr q X hX
     exact hb
    have hna:¬bH (fE σ.objs ((o,Obj.rng u T m tl)::l)) o:=by
     rintro⟨t',e',ys,h⟩
     rw[mU _ _ hnod] at h
     simp only[find,Zi,Nat.beq_eq,if_true,Option.some_or] at h
     cases h
    have hdp:∀q,(find ((o,Obj.rng u T m tl)::l) q).isSome=true->(find σ.objs q).isSome=true->bH (fE σ.objs ((o,Obj.rng u T m tl)::l)) q->bH σ.objs q/\oE φ w φ' w q:=by
     intro q hq hs ha
     cases hX:find ((o,Obj.rng u T m tl)::l) q with
     |none=>rw[hX] at hq;cases hq
     |some X=>
      rcases hfu q X hX with⟨rfl,_⟩|⟨_,hm⟩
      . exact absurd ha hna
      . rw[(hlk q (List.mem_map.2 ⟨_,hm,rfl⟩)).1] at hs;cases hs
    have s:sS cx φ ψ Av σ.objs w φ' ψ' Av (fE σ.objs ((o,Obj.rng u T m tl)::l)) ((o,Obj.rng u T m tl)::l) w:=by
     refine⟨fun q=>mU _ _ hnod q,fun q hq=>m1.hφ q (hno' q hq),fun q hq hn=>?_,fun _ h=>h,fun _ h=>.inl h,fun _ _ _=>rfl,vF.rfl' w,fun q X hX=>?_,fun q X hX b hb=>?_,fun q X q' X' hX hX' hne b hb hb'=>?_,fun q X hX r hr=>?_,fun q X hX hn r hr hu ha=>?_⟩
     . rw[m1.hψ q (hno' q (.inl hq))]
       refine sU ?_
       rintro rfl
       simp only[find,Zi,Nat.beq_eq,if_true] at hn
       cases hn
     . rcases hfu q X hX with⟨rfl,rfl⟩|⟨_,hm⟩
       . simp only[Obj.rep]
         rw[m1.hφ q hno,hψo]
         refine⟨hee,hh,by simp only[Zg] at c1;omega,?_⟩
         rw[show m-length (α:=T.D) tl=k+1 by simp only[Zg] at c1;omega]
         exact k5
       . obtain⟨t',e',ys,rfl,j1,j2⟩:=hnarr q X hm
         exact⟨j1,j2⟩
     . have hF:ψ o b->b<w.heap.size/\(w.heap.size<=b\/∃o' x',find σ.objs o'=some x'/\(find ((o,Obj.rng u T m tl)::l) o').isSome=true/\kL φ ψ o' x' b):=fun h=>
        ⟨(hO.own o _ ho b h).1,.inr ⟨o,_,ho,by simp[find],h⟩⟩
       rcases hfu q X hX with⟨rfl,rfl⟩|⟨_,hm⟩
       . have hb:ψ' q b:=hb
         rw[hψo] at hb
         exact hF (k7 b hb)
       . exact hF (k6 b (m1.fp _ hm b (hob q X hm b hb)))
     . rcases hfu q X hX with⟨rfl,rfl⟩|⟨_,hm⟩<;>rcases hfu q' X' hX' with⟨rfl,rfl⟩|⟨_,hm'⟩
       . exact hne rfl
       . have hb:ψ' q b:=hb
         rw[hψo] at hb
         exact k8 b (m1.fp _ hm' b (hob q' X' hm' b hb')) hb
       . have hb':ψ' q' b:=hb'
         rw[hψo] at hb'
         exact k8 b (m1.fp _ hm b (hob q X hm b hb)) hb'
       . exact m1.dis _ hm _ hm' hne b (hob q X hm b hb) (hob q' X' hm' b hb')
     . rcases hfu q X hX with⟨rfl,rfl⟩|⟨_,hm⟩
       . cases hr
       . obtain⟨t',e',ys,rfl,_⟩:=hnarr q X hm
         cases hr
     . exact hdp r hu (hO.names q X hX r (aAp X r hr)) ha
    refine⟨_,w,hld,φ',ψ',Av,fE σ.objs ((o,Obj.rng u T m tl)::l),fun q=>rfl,hO.step s,kV.step hO s hS fun t' x' hx' r hr hu ha=>hdp r hu (hS.names t' x' hx' r (sE x' r hr)) ha,?_,fun q hq=>?_⟩
    . simp only[kv]
      exact sW vl.fits (vl.cells _)
    . simp only[kv,SV.named] at hq
      have:=vl.named q hq
      unfold keys
      rw[mU _ _ hnod]
      cases hX:find ((o,Obj.rng u T m tl)::l) q with
      |some X=>rfl
      |none=>
       exfalso
       obtain⟨pr,hp,rfl⟩:=List.mem_map.1 this
       have:=mH hnod (o:=pr.1) (a:=pr.2) (Zo _ hp)
       rw[hX] at this;cases this
 . cases he
theorem aHD{t:TypeId}{s:SV}{x:Value}{n:Nat}(hE:aS cx.P E)(hO:iH cx φ ψ Av σ.objs w)(hS:kV cx.P φ Av σ tmps w)(hx:s.rep cx.P φ w Av (bH σ.objs) x)(hu:e.upd≠[])
 (he:(aHL (E.ty t) s n).ev (find σ.objs)=some e):wK cx σ tmps (Instr.loadAt t x) w e:=by
 have hok:∀c:CT,(ok c).ev (find σ.objs)=some e->False:=by
  intro c h
  simp only[ok,M.ev,Zc] at h
  subst h;exact hu rfl
 unfold aHL at he
 split at he
 . simp only[M.ev] at he
   split at he
   . rw[Zi] at he
     split at he
     . exact(hok _ he).elim
     . cases he
   . cases he
 . rw[Zi] at he
   split at he
   . exact(hok _ he).elim
   . cases he
 . rename_i T o p U hT
   simp only[M.ev] at he
   split at he
   . rw[Zi] at he
     split at he
     . obtain⟨z,_,hf⟩:=aG he
       exact(hok _ hf).elim
     . cases he
   . rename_i t1 e1 m xs ho
     rw[Zi] at he
     split at he
     . rename_i hc
       have:U=T:=Ze hc
       subst this
       exact aMn hE hO hS hT ho hx he
     . cases he
   . cases he
 . cases he
end
end Go.Aw
