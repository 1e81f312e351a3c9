/-
 Stores.
-/
import Derived.Test.YtdlkgkkfpfglbaaGreatAwO
namespace Go.Aw
theorem pA{l vs:List Value}{off j:Nat}(h:off+vs.length<=l.length)(hj:j<off\/off+vs.length<=j):(eS l off vs)[j]?=l[j]?:=by
 unfold eS
 rcases hj with hj|hj
 . rw[Zk,List.getElem?_append_left (by rw[Zr];omega),List.getElem?_take_of_lt hj]
 . have h1:(l.take off++vs).length=off+vs.length:=by rw[Zf,Zr];omega
   rw[List.getElem?_append_right (by omega),h1,List.getElem?_drop]
   congr 1;omega
theorem zV{l vs:List Value}{off:Nat}(h:off+vs.length<=l.length):fX (eS l off vs) off vs.length=vs:=by
 unfold eS fX
 have h1:(l.take off).length=off:=by rw[Zr];omega
 rw[Zk,List.drop_append,List.drop_of_length_le (by omega),h1]
 simp
theorem aEW{a b vs:List Value}{o:Nat}(h:o+vs.length<=a.length):eS (a++b) o vs=eS a o vs++b:=by
 unfold eS
 rw[List.take_append_of_le_length (by omega),List.drop_append_of_le_length (by omega)]
 simp only[Zk]
theorem yE{c:CT}(h:c.isDef=true):c≠.undef/\c≠.skip:=⟨(by rintro rfl;cases h),(by rintro rfl;cases h)⟩
section
variable {cx:Cx} {φ:Nat->dJ} {ψ:Nat->Nat->Prop} {w:World} {Av:Nat->Prop} {σ:St} {tmps:Array Value} {E:eI} {e:uM}
theorem aDb{P:Program}{T:Ty}{t:TypeId}{b off:Nat}{c:Array Value}{E:TypeId}{fr:Nat×Nat}{v:Value}(h:pQ P T (.t t)=true)
 (hb:w.heap[b]?=some (.cells c E fr)) (hl:off+T.sz<=c.size) (hf:xV fr off T.sz) (hv:v.cells.toList.length=T.sz) (ho:∀u∈v.cells.toList,u.oneCell'=true):
 ∃w',((do Instr.storeAt t (.pointer (some ⟨b,off,none⟩)) v;pure undef:Sem Value)).run P w=.ok undef w'/\w'.heap[b]?=some (.cells (eS c.toList off v.cells.toList).toArray E fr)/\
  (∀b',b'≠b->w'.heap[b']?=w.heap[b']?)/\aDt w w':=by
 obtain⟨w',h1,h2,h3,h4⟩:=aGS h hb hl hf (by simpa using hv) ho
 refine⟨w',?_,h2,h3,h4⟩
 simp only[Instr.storeAt,Sem.run_bind,Instr.sureAddr,Sem.run_pure,Result.andThen_ok,h1]
theorem aHU{t:TypeId}{T V U:Ty}{o:Nat}{p:List Nat}{c d:CT}{x y:Value}(hE:aS cx.P E)(hO:iH cx φ ψ Av σ.objs w)(hS:kV cx.P φ Av σ tmps w)(hT:E.ty t=some T)
 (hx:(SV.one (.bptr o p U)).rep cx.P φ w Av (bH σ.objs) x) (hy:(SV.one c).rep cx.P φ w Av (bH σ.objs) y) (hk:∀q∈c.named,keys σ.objs q) (ho:find σ.objs o=some (.box V d)) (hUT:U=T)
 (hf:c.fits T=true) (hdf:c.isDef=true):wK cx σ tmps (do Instr.storeAt t x y;pure undef) w ⟨.one .skip,[(o,.box V (d.setp p c))],none⟩:=by
 subst hUT
 obtain⟨hd1,hd2⟩:=yE hdf
 obtain⟨vs,hc,rfl⟩:=hN hy hd1 hd2
 obtain⟨cs,⟨h1,rfl⟩,rfl⟩:=hx
 obtain⟨g1,g2,mid,g3,g4,g5⟩:=hO.reps o _ ho
 rw[g1] at h1
 obtain⟨_,_,_,k4⟩:=vW p d h1 g2 g3
 obtain⟨j1,j2,j3⟩:=zP p d h1 g2 g3 hf hc
 have hml:=cells_len g2 g3
 have hvl:=cells_len hf hc
 have hone:=sB c hc
 have hmk:(cS c.isSt vs).cells.toList=vs:=by rw[yR hf hd1];exact xO hvl hone
 have hown:=(hO.own o _ ho (φ o).b rfl).1
 obtain⟨w',r1,r2,r3,r4⟩:=aDb (off:=(φ o).pre.length+(φ o).T.offp p) (v:=cS c.isSt vs) (hE.ty t U hT) g4 (by rw[g1];simp only[List.size_toArray,Zf];omega) (by rw[g1];exact tC g5 (by omega) (by omega))
  (by rw[hmk,hvl]) (by rw[hmk];exact hone)
 have r4s:=r4.size
 rw[hmk,g1] at r2
 have hsp:eS ((φ o).pre++mid++(φ o).post) ((φ o).pre.length+V.offp p) vs=(φ o).pre++eS mid (V.offp p) vs++(φ o).post:=by
  rw[Zk,vP,aEW (by omega),Zk]
 rw[hsp] at r2
 have hal:∀q,bH (fE σ.objs (gone []++[(o,.box V (d.setp p c))])) q->bH σ.objs q/\q≠o:=by
  intro q ⟨t1,e1,xs,hq⟩
  rw[mU _ _ (yC (by simp) (by simp)),xZ (by simp)] at hq
  by_cases hqo:q=o
  . subst hqo;simp at hq
  . simp[hqo] at hq;exact⟨⟨t1,e1,xs,hq⟩,hqo⟩
 have hsame:∀b,Av b->w'.heap[b]?=w.heap[b]?:=fun b hb=>r3 b (by
  rintro rfl
  exact(hO.av _ hb).2.1 o _ ho rfl)
 refine One.does (l:=[]) (n:=o) (X:=.box V (d.setp p c)) (φ':=φ) (ψ':=ψ) hO hS
  ⟨by simp,by simp,(fun o ho=>by cases ho),fun _ _=>rfl,fun _ _=>rfl,fun _=>rfl,r4.grew,fun b hb hno=>?_,fun b hb=>?_,fun q hq=>?_,fun _ ⟨_,_,_,hX⟩=>by cases hX⟩ ?_ r1 rfl rfl rfl (fun q hq=>by cases hq)
 . refine r3 b ?_
   rintro rfl
   exact hno ⟨o,_,by simp,ho,rfl⟩
 . simp only[kL] at hb
   subst hb
   exact⟨by omega,.inr ⟨o,_,by simp,ho,rfl⟩⟩
 . exact .inr ((j3 q hq).elim (fun h=>hO.names o _ ho q h) (hk q))
 . refine⟨g1,j2,_,?_,r2,g5⟩
   refine lK (fun _ h=>h) hsame _ (fun _ _=>rfl) (fun q hq ha=>?_) j1
   obtain⟨ha',hqo⟩:=hal q ha
   refine⟨ha',?_⟩
   obtain⟨t1,e1,xs,hx⟩:=ha'
   obtain⟨he,hrd⟩:=hO.reps q _ hx
   refine zQ he hrd rfl (fun b hb=>r3 b ?_)
   rintro rfl
   exact hO.disj q _ o _ hx ho hqo _ hb rfl
def aJm:Value->Bool
 |.slice _ _ _=>true
 |_=>false
theorem zY:(T:Ty)->T.flat=true->{x:T.D}->{cs:List Value}->{F:Nat->Prop}->qW w T x cs F->∀u∈cs,aJm u=false
 |.int _,_,_,_,_,h,u,hu=>by rw[h.1] at hu;cases Zq.1 hu;rfl
 |.bool,_,_,_,_,h,u,hu=>by rw[h.1] at hu;cases Zq.1 hu;rfl
 |.str,_,_,_,_,h,u,hu=>by rw[h.1] at hu;cases Zq.1 hu;rfl
 |.unit,_,_,_,_,h,u,hu=>by rw[h.1] at hu;cases hu
 |.op,h,_,_,_,_,_,_=>by cases h
 |.sl _ _,h,_,_,_,_,_,_=>by cases h
 |.pair a b,hf,_,_,_,h,u,hu=>by
  simp only[Ty.flat,Zb] at hf
  obtain⟨c1,c2,F1,F2,rfl,_,_,h1,h2⟩:=h
  rcases Zp.1 hu with hu|hu
  . exact zY a hf.1 h1 u hu
  . exact zY b hf.2 h2 u hu
def aLW(w w':World)(D:Nat->Prop):Prop:=∀(b off:Nat) (v:Value),D b->(blk w b).bind (fun l=>l[off]?)=some v->aJm v=true->(blk w' b).bind (fun l=>l[off]?)=some v
theorem aCz{w':World}{D:Nat->Prop}(hH:aLW w w' D){U:Ty}{b' off':Nat}:(p:List qR)->(T:Ty)->(x:T.D)->(b off:Nat)->(c:Array Value)->(E:TypeId)->(fr:Nat×Nat)->(F:Nat->Prop)->
 w.heap[b]?=some (.cells c E fr)->off+T.sz<=c.toList.length->qW w T x (fX c.toList off T.sz) F->(∀q,q=b\/F q->D q)->
 rX w p T b off=some (U,b',off')->rX w' p T b off=some (U,b',off')
 |[],_,_,_,_,_,_,_,_,_,_,_,_,hr=>hr
 |.f k::p,T,x,b,off,c,E,fr,F,hb,hl,h,hw,hr=>by
  simp only[rX] at hr ⊢
  cases hn:T.nth k with
  |none=>rw[hn] at hr;cases hr
  |some V=>
   rw[hn] at hr
   have hle:=aCJ T hn
   obtain⟨y1,F1,h1,h2,h3,_⟩:=aIQ hn h hl
   exact aCz hH p V y1 b (off+T.offn k) c E fr F1 hb (by omega) h2 (fun q hq=>hw q (hq.imp id (h3 q))) hr
 |.i n::p,T,x,b,off,c,E,fr,F,hb,hl,h,hw,hr=>by
  cases T with
  |sl t e=>
   simp only[rX] at hr ⊢
   have hlt:off<c.toList.length:=by simp only[Ty.sz] at hl;omega
   have hs:fX c.toList off (Ty.sl t e).sz=[c.toList[off]]:=by
    unfold fX;simp only[Ty.sz]
    rw[Zn hlt];rfl
   rw[hs] at h
   have hcell:(blk w b).bind (fun l=>l[off]?)=some c.toList[off]:=by
    rw[pV hb];simp only[Option.bind_some];exact Zm hlt
   rw[hcell] at hr
   rcases h with⟨h1,_⟩|⟨b1,off1,cap,d,E1,fr1,Fs,h1,h2,h3,h4,h5,h6,h7,h8,h9,h10⟩
   . simp only[List.cons.injEq,and_true] at h1
     rw[h1] at hr;cases hr
   . simp only[List.cons.injEq,and_true] at h1
     have hc':=hH b off _ (hw b (.inl rfl)) hcell (by rw[h1];rfl)
     rw[hc']
     rw[h1] at hr ⊢
     simp only[] at hr ⊢
     split at hr
     . rename_i hnl
       rw[if_pos hnl]
       have hx:=h10 n _ (Zm hnl)
       have hmul:=dT (k:=e.sz) (Nat.lt_of_lt_of_le hnl h3)
       exact aCz hH p e _ b1 (off1+n*e.sz) d E1 fr1 (Fs n) h2 (by rw[Array.length_toList (xs:=d)];omega) hx
        (fun q hq=>hw q (.inr ((h7 q).2 (hq.imp id fun hq=>⟨n,hnl,hq⟩)))) hr
     . cases hr
  |int k=>simp[rX] at hr
  |bool=>simp[rX] at hr
  |str=>simp[rX] at hr
  |op=>simp[rX] at hr
  |unit=>simp[rX] at hr
  |pair a b=>simp[rX] at hr
theorem aCl{w':World}{D:Nat->Prop}(hH:aLW w w' D){F:Nat->Prop}{o:Nat}{t:TypeId}{T:Ty}{xs:List T.D}(he:(φ o).e=T)(h:qW w (.sl t T) xs [(φ o).hdr] F)(hF:∀q,F q->D q):
 oE φ w φ w' o:=by
 intro p U b off hr
 obtain⟨y,F',c1,E1,fr1,_,k2,k3,k4,_,_,k7,_,_⟩:=aEl he h hr
 refine⟨?_,fun t1 e1 hU=>?_⟩
 . subst he
   cases p with
   |nil=>simp[rC] at hr
   |cons s p=>
    cases s with
    |f k=>simp[rC] at hr
    |i n=>
     simp only[rC] at hr ⊢
     rcases h with⟨h1,_⟩|⟨b1,off1,cap,d,E1',fr1',Fs,h1,h2,h3,h4,h5,h6,h7,h8,h9,h10⟩
     . simp only[List.cons.injEq,and_true] at h1
       rw[h1] at hr;cases hr
     . simp only[List.cons.injEq,and_true] at h1
       rw[h1] at hr ⊢
       simp only[] at hr ⊢
       split at hr
       . rename_i hnl
         rw[if_pos hnl]
         have hx:=h10 n _ (Zm hnl)
         have hmul:=dT (k:=(φ o).e.sz) (Nat.lt_of_lt_of_le hnl h3)
         exact aCz hH p _ _ b1 _ d E1' fr1' (Fs n) h2 (by rw[Array.length_toList (xs:=d)];omega) hx
          (fun q hq=>hF q ((h7 q).2 (hq.imp id fun hq=>⟨n,hnl,hq⟩))) hr
       . cases hr
 . subst hU
   have hlt:off<c1.toList.length:=by simp only[Ty.sz] at k3;omega
   have hs:fX c1.toList off (Ty.sl t1 e1).sz=[c1.toList[off]]:=by
    unfold fX;simp only[Ty.sz]
    rw[Zn hlt];rfl
   rw[hs] at k4
   have hcell:(blk w b).bind (fun l=>l[off]?)=some c1.toList[off]:=by
    rw[pV k2];simp only[Option.bind_some];exact Zm hlt
   rw[hcell]
   refine hH b off _ (hF b k7) hcell ?_
   obtain⟨a,cap,h1,_⟩:=uB (jO (Av:=fun _=>True) _ (fun _ _=>trivial) k4)
   simp only[List.cons.injEq,and_true] at h1
   rw[h1];rfl
theorem aHw{objs:List (Nat×Obj)}{slots:List SV}{t:TypeId}{T U:Ty}{o b off:Nat}{p:List qR}{t1:TypeId}{xs:List T.D}{y:U.D}{vs:List Value}{G:Nat->Prop}{l:List Nat}{v:Value}(hE:aS cx.P E)
 (hO:iH cx φ ψ Av objs w) (hS:kV cx.P φ Av ⟨slots,objs⟩ tmps w) (hT:E.ty t=some U) (ho:find objs o=some (.arr t1 T xs)) (hr:rC φ w o p=some (U,b,off)) (hv:v=cS U.isSt vs)
 (hy:qW w U y vs G) (hG:∀q,G q->Of φ ψ objs l q) (hl:l.Nodup) (ha:aEF objs l) (hol:o∉l)
 (hd:U.flat=true\/((∀q x,find objs q=some x->o∉x.deep)/\∀(t:Nat) x,slots[t]?=some x->o∉x.deep)):
 ∃w' ψ',(do Instr.storeAt t (.pointer (some ⟨b,off,none⟩)) v;pure undef:Sem Value).run cx.P w=.ok undef w'/\
  iH cx φ ψ' Av (fE objs (gone l++[(o,.arr t1 T ((Ty.sl t1 T).set p xs ⟨U,y⟩))])) w'/\
  kV cx.P φ Av ⟨slots,fE objs (gone l++[(o,.arr t1 T ((Ty.sl t1 T).set p xs ⟨U,y⟩))])⟩ tmps w':=by
 subst hv
 obtain⟨hee,hrd⟩:=hO.reps o _ ho
 obtain⟨y0,F',c1,E1,fr1,k1,k2,k3,k4,k5,k6,k7,k8,k9,k10⟩:=aEl hee hrd hr
 have hvl:=nL U hy
 have hone:∀u∈vs,u.oneCell'=true:=sL U (jO (Av:=fun _=>True) _ (fun _ _=>trivial) hy)
 have hmk:(cS U.isSt vs).cells.toList=vs:=xO hvl hone
 obtain⟨w',r1,r2,r3,r4⟩:=aDb (v:=cS U.isSt vs) (hE.ty t U hT) k2 (by simpa using k3) k8 (by rw[hmk,hvl]) (by rw[hmk];exact hone)
 have r4s:=r4.size
 rw[hmk] at r2
 have hGb:∀q,G q->∀b',ψ o b'->q≠b':=by
  rintro q hq b' hb' rfl
  exact jR hO (l:=[o]) (r:=l) (by simp[hol,hl]) ⟨o,_,by simp,ho,hb'⟩ (hG q hq)
 have hsp:off+vs.length<=c1.toList.length:=by rw[hvl];exact k3
 have ht:aCD w w' b off U.sz (eS c1.toList off vs).toArray:=by
  intro c' E' fr' hc'
  rw[k2] at hc';cases hc'
  refine⟨r2,by simp[wN hsp],fun j hj=>?_⟩
  exact pA hsp (by rw[hvl];exact hj)
 have hyw:qW w' U y (fX (eS c1.toList off vs).toArray.toList off U.sz) G:=by
  show qW w' U y (fX (eS c1.toList off vs) off U.sz) G
  rw[<-hvl,zV hsp]
  exact sO U (fun q hq=>r3 q (hGb q hq b k7)) hy
 have hset:=k10 w' y G _ ht hyw (fun q _ hq _=>r3 q hq) (fun q hq hq'=>(hGb q hq q hq' rfl).elim)
 have hbsz:=(hO.own o _ ho b k7).1
 have one:One cx φ ψ Av objs slots w l o (.arr t1 T ((Ty.sl t1 T).set p xs ⟨U,y⟩)) φ (fup ψ o fun q=>(ψ o q/\¬F' q)\/G q) w':=by
  refine⟨hl,hol,ha,fun _ _=>rfl,fun q hq=>sU hq,fun _=>rfl,r4.grew,fun q hq hno=>r3 q ?_,fun q hq=>?_,(fun q hq=>by cases hq),fun _ _=>?_⟩
  . rintro rfl
    exact hno ⟨o,_,by simp,ho,k7⟩
  . simp only[kL,fH] at hq
    rcases hq with⟨hq,_⟩|hq
    . have:=(hO.own o _ ho q hq).1
      exact⟨by omega,.inr ⟨o,_,by simp,ho,hq⟩⟩
    . obtain⟨o',x',h1,h2,h3⟩:=hG q hq
      have:=(hO.own o' _ h2 q h3).1
      exact⟨by omega,.inr ⟨o',x',Zo _ h1,h2,h3⟩⟩
  . rcases hd with hd|hd
    . refine .inl ⟨⟨t1,T,xs,ho⟩,?_⟩
      refine aCl (D:=fun _=>True) (fun b1 off1 u _ hu hsu=>?_) hee hrd (fun _ _=>trivial)
      by_cases hb:b1=b
      . subst hb
        rw[pV k2] at hu
        rw[pV r2]
        simp only[Option.bind_some] at hu ⊢
        by_cases hin:off1<off\/off+vs.length<=off1
        . rw[pA hsp hin];exact hu
        . have:u∈fX c1.toList off U.sz:=by
           have h1:(fX c1.toList off U.sz)[off1-off]?=some u:=by
            rw[uE (by omega)]
            rw[<-hu];congr 1;omega
           exact List.mem_of_getElem? h1
          rw[zY U hd k4 u this] at hsu;cases hsu
      . rw[vV (r3 b1 hb)];exact hu
    . exact .inr hd
 have hrep:(Obj.arr t1 T ((Ty.sl t1 T).set p xs ⟨U,y⟩)).rep cx.P φ (fup ψ o fun q=>(ψ o q/\¬F' q)\/G q) w' Av (bH (fE objs (gone l++[(o,.arr t1 T ((Ty.sl t1 T).set p xs ⟨U,y⟩))]))) o:=by
  exact⟨hee,by simp only[fH];exact hset⟩
 obtain⟨h1,h2⟩:=one.stepped hO hrep
 refine⟨w',_,r1,hO.step h1,kV.step hO h1 hS fun t x hx=>?_⟩
 refine h2 x.deep (fun q hq=>hS.names t x hx q (sE x q hq)) (fun hnx hns hX=>?_)
 rcases one.hdeep hns hX with h3|h3
 . exact h3
 . exact absurd hnx (h3.2 t x hx)
theorem aDH(o:List Nat)(x:SV):∀q∈(x.kill o).deep,q∉o:=by
 cases x with
 |one c=>exact fun q h=>(vT c q h).2
 |tup c=>exact fun q h=>(vT c q h).2
theorem aEp(o:List Nat)(x:Obj):∀q∈(x.kill o).deep,q∉o:=by
 cases x with
 |box T c=>exact fun q h=>(vT c q h).2
 |arr t e xs=>exact fun q h=>by cases h
 |rng t e m xs=>exact fun q h=>by cases h
 |dead=>exact fun q h=>by cases h
theorem aKB{t:TypeId}{s1 s2:SV}{x y:Value}(hE:aS cx.P E)(hO:iH cx φ ψ Av σ.objs w)(hS:kV cx.P φ Av σ tmps w)(hx:s1.rep cx.P φ w Av (bH σ.objs) x)
 (hy:s2.rep cx.P φ w Av (bH σ.objs) y) (hk:∀q∈s2.named,keys σ.objs q) (he:(aIR (E.ty t) s1 s2).ev (find σ.objs)=some e):wK cx σ tmps (do Instr.storeAt t x y;pure undef) w e:=by
 unfold aIR at he
 split at he
 . rename_i T o p U c hT
   simp only[M.ev] at he
   split at he
   . rename_i V d ho
     rw[Zi] at he
     split at he
     . rename_i hc
       simp only[Zb,Za] at hc
       simp only[M.ev,Zc] at he
       subst he
       exact aHU hE hO hS hT hx hy hk ho hc.1.1 hc.1.2 hc.2
     . cases he
   . cases he
 . rename_i T o p U c hT
   simp only[M.ev] at he
   split at he
   . rename_i t1 e1 xs ho
     rw[Zi] at he
     split at he
     . rename_i hc
       have:U=T:=Ze hc
       subst this
       obtain⟨z,g0,hf⟩:=aG he
       clear he
       rw[Zi] at hf
       split at hf
       . rename_i hnd
         have hnd:=rA _ hnd
         simp only[List.nodup_cons] at hnd
         simp only[M.ev,Zc] at hf
         subst hf
         obtain⟨cs,⟨a,rfl,h1⟩,rfl⟩:=hx
         obtain⟨b,off,h2,rfl⟩:=h1 (.inl ⟨t1,e1,xs,ho⟩)
         obtain⟨hd1,hd2⟩:=aAT g0
         obtain⟨vs,hc,rfl⟩:=hN hy hd1 hd2
         obtain⟨G,j1,j2,j3,j4⟩:=uJ hO U c g0 hnd.2 hc
         by_cases hfl:U.flat=true
         . obtain⟨w',ψ',r1,r2,r3⟩:=aHw (v:=cS c.isSt vs) hE hO hS hT ho h2 (by rw[j4]) j1 j2 hnd.2 j3 hnd.1 (.inl hfl)
           refine⟨undef,w',r1,φ,ψ',Av,_,fun q=>?_,r2,?_,?_,?_⟩
           . simp only[St.apply,hfl,cond_true]
           . simp only[St.apply,hfl,cond_true];exact r3
           . simp only[kv,hfl,cond_true];rfl
           . simp only[kv,hfl,cond_true];exact fun q hq=>by cases hq
         . have hfl:U.flat=false:=by simpa using hfl
           have hOk:=hO.kill [o]
           have hSk:=kV.kill (slots:=σ.slots) (objs:=σ.objs) hS [o]
           have hok:find (σ.objs.map fun p=>(p.1,p.2.kill [o])) o=some (.arr t1 e1 xs):=by rw[lJ,ho];rfl
           obtain⟨w',ψ',r1,r2,r3⟩:=aHw (v:=cS c.isSt vs) hE hOk hSk hT hok h2 (by rw[j4]) j1 (fun q hq=>by
            obtain⟨o',x',m1,m2,m3⟩:=j2 q hq
            refine⟨o',x'.kill [o],m1,by rw[lJ,m2];rfl,?_⟩
            cases x'<;>exact m3) hnd.2 (fun q hq=>by rw[aA5];exact j3 q hq) hnd.1 (.inr ⟨fun q x hq=>by
             rw[lJ] at hq
             cases hz:find σ.objs q with
             |none=>rw[hz] at hq;cases hq
             |some z=>
              rw[hz] at hq
              simp only[Option.map_some,Zc] at hq
              rw[<-hq];exact fun h=>aEp [o] z _ h (by simp),fun t x hq=>by
             rw[List.getElem?_map] at hq
             cases hz:σ.slots[t]? with
             |none=>rw[hz] at hq;cases hq
             |some z=>
              rw[hz] at hq
              simp only[Option.map_some,Zc] at hq
              rw[<-hq];exact fun h=>aDH [o] z _ h (by simp)⟩)
           refine⟨undef,w',r1,φ,ψ',Av,_,fun q=>?_,r2,?_,?_,?_⟩
           . simp only[St.apply,hfl,cond_false]
             rw[lJ,mU _ _ (yC hnd.2 hnd.1),mU _ _ (yC hnd.2 hnd.1),xZ hnd.1,lJ]
             by_cases hq1:q∈z.2
             . rw[if_pos hq1];rfl
             . rw[if_neg hq1]
               by_cases hq2:q=o
               . rw[if_pos hq2];rfl
               . rw[if_neg hq2];rfl
           . simp only[St.apply,hfl,cond_false];exact r3
           . simp only[kv,hfl,cond_false];rfl
           . simp only[kv,hfl,cond_false];exact fun q hq=>by cases hq
       . cases hf
     . cases he
   . cases he
 . cases he
end
end Go.Aw
