/-
 Pointers into variables and arrays: their fields, their elements, loads.
-/
import Derived.Test.YtdlkgkkfpfglbaaGreatAwM
namespace Go.Aw
open Go.IntKind (wrap)
open List (length)
section
variable {P:Program} {φ:Nat->dJ} {w:World} {Av al:Nat->Prop}
theorem sL:(T:Ty)->{x:T.D}->{cs:List Value}->vK w Av T x cs->∀u∈cs,u.oneCell'=true
 |.int _,_,_,h,u,hu=>by rw[h.1] at hu;cases Zq.1 hu;rfl
 |.bool,_,_,h,u,hu=>by
  simp only[vK] at h;subst h;cases Zq.1 hu;rfl
 |.str,_,_,h,u,hu=>by rw[h.1] at hu;cases Zq.1 hu;rfl
 |.op,_,_,h,_,_=>h.elim
 |.sl _ e,xs,cs,h,u,hu=>by
  obtain⟨a,cap,h1,_⟩:=uB h
  rw[h1] at hu;cases Zq.1 hu;rfl
 |.unit,_,_,h,u,hu=>by
  simp only[vK] at h;subst h;cases hu
 |.pair a b,_,_,h,u,hu=>by
  obtain⟨c1,c2,rfl,h1,h2⟩:=h
  rcases Zp.1 hu with hu|hu
  . exact sL a h1 u hu
  . exact sL b h2 u hu
theorem aDO{h:Value}{sz lo hi:Nat}{v:Value}(hs:zN h sz lo hi v):v.oneCell'=true:=by
 unfold zN at hs
 split at hs
 . obtain⟨_,_,c,_,_,h|⟨_,h⟩⟩:=hs<;>subst h<;>rfl
 . obtain⟨_,_,h⟩:=hs;subst h;rfl
 . exact hs.elim
theorem sB:(c:CT)->{cs:List Value}->c.cells P φ w Av al cs->∀u∈cs,u.oneCell'=true
 |.undef,_,⟨v,h,h'⟩,u,hu=>by subst h;cases Zq.1 hu;exact h'
 |.skip,_,h,_,_=>h.elim
 |.fn _ _ _ _,_,⟨v,h,f,caps,h',_⟩,u,hu=>by subst h;cases Zq.1 hu;rw[h'];rfl
 |.nil,_,h,u,hu=>by simp only[CT.cells] at h;subst h;cases Zq.1 hu;rfl
 |.unit,_,h,u,hu=>by simp only[CT.cells] at h;subst h;cases hu
 |.dat T x,_,h,u,hu=>sL T h u hu
 |.arr o,_,⟨h,h'⟩,u,hu=>by subst h;cases Zq.1 hu;exact h'
 |.sub o lo hi,_,⟨v,h,h'⟩,u,hu=>by subst h;cases Zq.1 hu;exact aDO h'
 |.bor o p,_,⟨v,h,h',_⟩,u,hu=>by subst h;cases Zq.1 hu;exact h'
 |.bptr o p T,_,⟨_,h⟩,u,hu=>by subst h;cases Zq.1 hu;rfl
 |.eptr o p T,_,⟨a,h,_⟩,u,hu=>by subst h;cases Zq.1 hu;rfl
 |.dptr T x,_,⟨b,off,l,h,_⟩,u,hu=>by subst h;cases Zq.1 hu;rfl
 |.clo f c,_,⟨vs,h,_⟩,u,hu=>by subst h;cases Zq.1 hu;rfl
 |.pair a b,_,⟨c1,c2,h,h1,h2⟩,u,hu=>by
  subst h
  rcases Zp.1 hu with hu|hu
  . exact sB a h1 u hu
  . exact sB b h2 u hu
theorem aKn{v:Value}(h:v.oneCell'=true):v.cells=#[v]:=by cases v<;>first|rfl|cases h
theorem aDf{st:Bool}{cs:List Value}(h1:st=false->cs.length=1)(h:∀u∈cs,u.oneCell'=true):(cS st cs).cells.toList=cs:=by
 cases st with
 |true=>simp[cS,Value.cells]
 |false=>
  match cs,h1 rfl with
  |[v],_=>
   simp only[cS,Zj,if_false,List.getD_cons_zero]
   rw[aKn (h v (by simp))]
theorem xO{T:Ty}{cs:List Value}(h1:cs.length=T.sz)(h:∀u∈cs,u.oneCell'=true):(cS T.isSt cs).cells.toList=cs:=
 aDf (fun hs=>h1.trans (aCv hs)) h
theorem aIp:(p:List Nat)->{T U V:Ty}->{k:Nat}->T.atn p=some U->U.nth k=some V->T.atn (p++[k])=some V/\T.offp (p++[k])=T.offp p+U.offn k
 |[],T,U,V,k,h,hn=>by
  simp only[Ty.atn,Zc] at h;subst h
  simp[Ty.atn,Ty.offp,hn]
 |n::p,T,U,V,k,h,hn=>by
  simp only[Ty.atn] at h
  cases hT:T.nth n with
  |none=>rw[hT] at h;cases h
  |some W=>
   rw[hT] at h
   obtain⟨h1,h2⟩:=aIp p h hn
   simp only[List.cons_append,Ty.atn,Ty.offp,hT,h1,h2,true_and]
   omega
theorem aE6:(p:List qR)->{T U V:Ty}->{b off b' off' k:Nat}->rX w p T b off=some (U,b',off')->U.nth k=some V->rX w (p++[.f k]) T b off=some (V,b',off'+U.offn k)
 |[],T,U,V,b,off,b',off',k,h,hn=>by
  simp only[rX,Zc,Prod.mk.injEq] at h
  obtain⟨rfl,rfl,rfl⟩:=h
  simp[rX,hn]
 |.f n::p,T,U,V,b,off,b',off',k,h,hn=>by
  simp only[rX,List.cons_append] at h ⊢
  cases hT:T.nth n with
  |none=>rw[hT] at h;cases h
  |some W=>rw[hT] at h;exact aE6 p h hn
 |.i n::p,T,U,V,b,off,b',off',k,h,hn=>by
  simp only[rX,List.cons_append] at h ⊢
  cases T with
  |sl t e=>
   simp only[] at h ⊢
   split at h
   . split at h
     . rename_i hlt
       rw[if_pos hlt]
       exact aE6 p h hn
     . cases h
   . cases h
  |_=>cases h
theorem aFM{o:Nat}{p:List qR}{U V:Ty}{b' off' k:Nat}(h:rC φ w o p=some (U,b',off'))(hn:U.nth k=some V):rC φ w o (p++[.f k])=some (V,b',off'+U.offn k):=by
 unfold rC at h ⊢
 cases p with
 |nil=>cases h
 |cons s p=>
  cases s with
  |f n=>cases h
  |i n=>
   simp only[List.cons_append] at h ⊢
   split at h
   . split at h
     . rename_i hlt
       rw[if_pos hlt]
       exact aE6 p h hn
     . cases h
   . cases h
theorem aBy{t:TypeId}{e:Ty}{n len cap b1 off1:Nat}:(p:List qR)->{T:Ty}->{b off b' off':Nat}->rX w p T b off=some (.sl t e,b',off')->((blk w b').bind fun l=>l[off']?)=some (.slice (some ⟨b1,off1,none⟩) len cap)->n<len->
 rX w (p++[.i n]) T b off=some (e,b1,off1+n*e.sz)
 |[],T,b,off,b',off',h,hv,hn=>by
  simp only[rX,Zc,Prod.mk.injEq] at h
  obtain⟨rfl,rfl,rfl⟩:=h
  simp only[List.nil_append,rX,hv,if_pos hn]
 |.f k::p,T,b,off,b',off',h,hv,hn=>by
  simp only[rX,List.cons_append] at h ⊢
  cases hT:T.nth k with
  |none=>rw[hT] at h;cases h
  |some W=>rw[hT] at h;exact aBy p h hv hn
 |.i k::p,T,b,off,b',off',h,hv,hn=>by
  simp only[rX,List.cons_append] at h ⊢
  cases T with
  |sl t e=>
   simp only[] at h ⊢
   split at h
   . split at h
     . rename_i hlt
       rw[if_pos hlt]
       exact aBy p h hv hn
     . cases h
   . cases h
  |_=>cases h
theorem aHh{o:Nat}{p:List qR}{t:TypeId}{e:Ty}{n len cap b1 off1 b' off':Nat}(h:rC φ w o p=some (.sl t e,b',off'))(hv:((blk w b').bind fun l=>l[off']?)=some (.slice (some ⟨b1,off1,none⟩) len cap))(hn:n<len):
 rC φ w o (p++[.i n])=some (e,b1,off1+n*e.sz):=by
 unfold rC at h ⊢
 cases p with
 |nil=>cases h
 |cons s p=>
  cases s with
  |f n=>cases h
  |i k=>
   simp only[List.cons_append] at h ⊢
   split at h
   . split at h
     . rename_i hlt
       rw[if_pos hlt]
       exact aBy p h hv hn
     . cases h
   . cases h
theorem vW:(p:List Nat)->{T U:Ty}->(c:CT)->{cs:List Value}->T.atn p=some U->c.fits T=true->c.cells P φ w Av al cs->
 (c.atp p).cells P φ w Av al (fX cs (T.offp p) U.sz)/\(c.atp p).fits U=true/\(∀q∈(c.atp p).named,q∈c.named)/\T.offp p+U.sz<=cs.length
 |[],T,U,c,cs,h,hf,hc=>by
  simp only[Ty.atn,Zc] at h;subst h
  have hl:=cells_len hf hc
  simp only[CT.atp,Ty.offp,<-hl,aGj]
  exact⟨hc,hf,fun _ h=>h,by omega⟩
 |n::p,T,U,c,cs,h,hf,hc=>by
  simp only[Ty.atn] at h
  cases hT:T.nth n with
  |none=>rw[hT] at h;cases h
  |some W=>
   rw[hT] at h
   obtain⟨h1,h2,h3,h4⟩:=zD T c hT hf hc
   obtain⟨g1,g2,g3,g4⟩:=vW p (c.fld n) h h2 h1
   simp only[CT.atp,Ty.offp,hT]
   rw[oB h4] at g4
   rw[vJ g4] at g1
   exact⟨g1,g2,fun q hq=>h3 q (g3 q hq),by omega⟩
theorem aFq{l:List Value}{off n o:Nat}{vs:List Value}(h1:off+n<=l.length)(h2:o+vs.length<=n):eS l off (eS (fX l off n) o vs)=eS l (off+o) vs:=by
 have hlen:(eS (fX l off n) o vs).length=n:=by rw[wN (by rw[oB h1];exact h2),oB h1]
 unfold eS at hlen ⊢
 rw[hlen]
 unfold fX
 have e1:((l.drop off).take n).take o=(l.drop off).take o:=by rw[List.take_take,Nat.min_eq_left (by omega)]
 have e2:((l.drop off).take n).drop (o+vs.length)++l.drop (off+n)=l.drop (off+o+vs.length):=by
  rw[List.drop_take,List.drop_drop]
  have:l.drop (off+n)=(l.drop (off+(o+vs.length))).drop (n-(o+vs.length)):=by
   rw[List.drop_drop];congr 1;omega
  rw[this,List.take_append_drop]
  congr 1;omega
 rw[e1,List.take_add]
 simp only[Zk]
 rw[e2]
theorem aD8{a b vs:List Value}(h:vs.length=a.length):eS (a++b) 0 vs=vs++b:=by
 unfold eS
 simp only[List.take_zero,List.nil_append,Nat.zero_add]
 rw[h,List.drop_left]
theorem vP{a b vs:List Value}{o:Nat}:eS (a++b) (a.length+o) vs=a++eS b o vs:=by
 unfold eS
 rw[List.take_append,List.take_of_length_le (by omega),Nat.add_sub_cancel_left]
 have:(a++b).drop (a.length+o+vs.length)=b.drop (o+vs.length):=by
  rw[List.drop_append,List.drop_of_length_le (by omega)]
  rw[List.nil_append];congr 1;omega
 rw[this]
 simp only[Zk]
theorem aCf:(T:Ty)->(c:CT)->{k:Nat}->{U:Ty}->{v:CT}->{cs vs:List Value}->T.nth k=some U->c.fits T=true->c.cells P φ w Av al cs->v.fits U=true->v.cells P φ w Av al vs->
 (c.setFld k v).cells P φ w Av al (eS cs (T.offn k) vs)/\(c.setFld k v).fits T=true/\(∀q∈(c.setFld k v).named,q∈c.named\/q∈v.named):=by
 intro T
 induction T with
 |pair a b iha ihb=>
  intro c k U v cs vs hn hf hc hvf hv
  have hvl:=cells_len hvf hv
  cases c with
  |dat V x=>
   have hV:V=.pair a b:=Ze hf
   subst hV
   obtain⟨c1,c2,rfl,h1,h2⟩:=hc
   have l1:=tE a h1
   cases k with
   |zero=>
    simp only[Ty.nth,Zc] at hn;subst hn
    simp only[CT.setFld,Ty.offn]
    rw[aD8 (by rw[hvl,l1])]
    refine⟨⟨vs,c2,rfl,hv,h2⟩,by simp[CT.fits,hvf],fun q hq=>.inr ?_⟩
    simpa [CT.named] using hq
   |succ k=>
    simp only[Ty.nth] at hn
    obtain⟨g1,g2,g3⟩:=ihb (.dat b x.2) hn (by simp[CT.fits]) h2 hvf hv
    simp only[CT.setFld,Ty.offn]
    rw[<-l1,vP]
    refine⟨⟨c1,_,rfl,h1,g1⟩,by simp[CT.fits,g2],fun q hq=>?_⟩
    simp only[CT.named,List.nil_append] at hq
    exact g3 q hq
  |pair c d=>
   simp only[CT.fits,Zb] at hf
   obtain⟨c1,c2,rfl,h1,h2⟩:=hc
   have l1:=cells_len hf.1 h1
   cases k with
   |zero=>
    simp only[Ty.nth,Zc] at hn;subst hn
    simp only[CT.setFld,Ty.offn]
    rw[aD8 (by rw[hvl,l1])]
    refine⟨⟨vs,c2,rfl,hv,h2⟩,by simp[CT.fits,hvf,hf.2],fun q hq=>?_⟩
    simp only[CT.named,Zp] at hq ⊢
    rcases hq with hq|hq
    . exact .inr hq
    . exact .inl (.inr hq)
   |succ k=>
    simp only[Ty.nth] at hn
    obtain⟨g1,g2,g3⟩:=ihb d hn hf.2 h2 hvf hv
    simp only[CT.setFld,Ty.offn]
    rw[<-l1,vP]
    refine⟨⟨c1,_,rfl,h1,g1⟩,by simp[CT.fits,g2,hf.1],fun q hq=>?_⟩
    simp only[CT.named,Zp] at hq ⊢
    rcases hq with hq|hq
    . exact .inl (.inl hq)
    . exact(g3 q hq).imp .inr id
  |undef=>simp[CT.fits,Ty.isSt] at hf
  |_=>cases hf
 |int k=>intro c k U v cs vs hn;cases hn
 |bool=>intro c k U v cs vs hn;cases hn
 |str=>intro c k U v cs vs hn;cases hn
 |op=>intro c k U v cs vs hn;cases hn
 |sl t e=>intro c k U v cs vs hn;cases hn
 |unit=>intro c k U v cs vs hn;cases hn
theorem zP:(p:List Nat)->{T U:Ty}->(c:CT)->{v:CT}->{cs vs:List Value}->T.atn p=some U->c.fits T=true->c.cells P φ w Av al cs->v.fits U=true->v.cells P φ w Av al vs->
 (c.setp p v).cells P φ w Av al (eS cs (T.offp p) vs)/\(c.setp p v).fits T=true/\(∀q∈(c.setp p v).named,q∈c.named\/q∈v.named)
 |[],T,U,c,v,cs,vs,h,hf,hc,hvf,hv=>by
  simp only[Ty.atn,Zc] at h;subst h
  have hl:=cells_len hf hc
  have hvl:=cells_len hvf hv
  simp only[CT.setp,Ty.offp]
  have:eS cs 0 vs=vs:=by
   unfold eS
   rw[List.drop_of_length_le (by omega)];simp
  rw[this]
  exact⟨hv,hvf,fun q hq=>.inr hq⟩
 |n::p,T,U,c,v,cs,vs,h,hf,hc,hvf,hv=>by
  simp only[Ty.atn] at h
  cases hT:T.nth n with
  |none=>rw[hT] at h;cases h
  |some W=>
   rw[hT] at h
   obtain⟨h1,h2,h3,h4⟩:=zD T c hT hf hc
   obtain⟨g1,g2,g3⟩:=zP p (c.fld n) h h2 h1 hvf hv
   obtain⟨_,_,_,g4⟩:=vW p (c.fld n) h h2 h1
   obtain⟨k1,k2,k3⟩:=aCf T c hT hf hc g2 g1
   simp only[CT.setp,Ty.offp,hT]
   rw[oB h4] at g4
   have hvl:=cells_len hvf hv
   rw[aFq h4 (by omega)] at k1
   refine⟨k1,k2,fun q hq=>?_⟩
   rcases k3 q hq with hq|hq
   . exact .inl hq
   . exact(g3 q hq).imp (h3 q) id
theorem aB6:(T:Ty)->T.told=true->(rE T).cells P φ w Av al T.zcells/\(rE T).fits T=true/\(rE T).named=[]/\(rE T).isDef=true
 |.int k,_=>⟨⟨rfl,aEe k⟩,by simp[rE,CT.fits],rfl,rfl⟩
 |.bool,_=>⟨rfl,by simp[rE,CT.fits],rfl,rfl⟩
 |.str,_=>⟨⟨rfl,Nat.zero_le _⟩,by simp[rE,CT.fits],rfl,rfl⟩
 |.op,h=>by cases h
 |.sl _ _,_=>⟨rfl,rfl,rfl,rfl⟩
 |.unit,_=>⟨rfl,by simp[rE,CT.fits],rfl,rfl⟩
 |.pair a b,h=>by
  simp only[rE,Zi]
  split
  . rename_i hf
    exact⟨jO _ (fun _ h=>h.elim) (aAM (w:=w) (.pair a b) h),by simp[CT.fits],rfl,rfl⟩
  . simp only[Ty.told,Zb] at h
    obtain⟨h1,h2,h3,_⟩:=aB6 a h.1
    obtain⟨g1,g2,g3,_⟩:=aB6 b h.2
    exact⟨⟨_,_,rfl,h1,g1⟩,by simp[CT.fits,h2,g2],by simp[CT.named,h3,g3],rfl⟩
theorem aED{o:Nat}{b:Nat}{l:List Value}(hb:blk w b=some l):(T:Ty)->(m:Option Nat)->(p:List qR)->(x:T.D)->(off:Nat)->{F:Nat->Prop}->off+T.sz<=l.length->
 qW w T x (fX l off T.sz) F->
 (match m with
  |none=>rC φ w o p=some (T,b,off)
  |some n=>∃S off0,rC φ w o p=some (S,b,off0)/\∀k U,T.nth k=some U->S.nth (n+k)=some U/\off0+S.offn (n+k)=off+T.offn k)->
 (rI o T m p x).cells P φ w Av al (fX l off T.sz)/\(∀q∈(rI o T m p x).named,q=o)
 |.int k,m,p,x,off,F,hl,h,_=>by
  obtain⟨h1,h2,_⟩:=h
  exact⟨by cases m<;>exact⟨h1,h2⟩,fun q hq=>by cases m<;>cases hq⟩
 |.bool,m,p,x,off,F,hl,h,_=>by
  obtain⟨h1,_⟩:=h
  exact⟨by cases m<;>exact h1,fun q hq=>by cases m<;>cases hq⟩
 |.str,m,p,x,off,F,hl,h,_=>by
  obtain⟨h1,h2,_⟩:=h
  exact⟨by cases m<;>exact⟨h1,h2⟩,fun q hq=>by cases m<;>cases hq⟩
 |.op,m,p,x,off,F,hl,h,_=>h.elim
 |.unit,m,p,x,off,F,hl,h,_=>by
  obtain⟨h1,_⟩:=h
  exact⟨by cases m<;>exact h1,fun q hq=>by cases m<;>cases hq⟩
 |.sl t e,m,p,x,off,F,hl,h,hm=>by
  have hlt:off<l.length:=by simp only[Ty.sz] at hl;omega
  have hs:fX l off (Ty.sl t e).sz=[l[off]]:=by
   unfold fX;simp only[Ty.sz]
   rw[Zn hlt];rfl
  have h1:(l[off]).oneCell'=true:=by
   have:=sL _ (jO (Av:=fun _=>True) _ (fun _ _=>trivial) h)
   rw[hs] at this
   exact this _ (by simp)
  rw[hs]
  cases m with
  |none=>
   refine⟨⟨_,rfl,h1,fun _=>⟨t,e,b,off,hm,?_⟩⟩,fun q hq=>by simpa [rI,CT.named] using hq⟩
   rw[hb];simp[hlt]
  |some n=>exact⟨⟨_,rfl,h1⟩,fun q hq=>by cases hq⟩
 |.pair a b',m,p,x,off,F,hl,h,hm=>by
  obtain⟨c1,c2,F1,F2,hc,hF,hd,h1,h2⟩:=h
  have l1:=nL a h1
  have l2:=nL b' h2
  simp only[Ty.sz] at hc hl
  rw[rY] at hc
  obtain⟨e1,e2⟩:=List.append_inj hc (by rw[l1];exact oB (by omega))
  subst e1;subst e2
  have main:∀n S off0,rC φ w o p=some (S,b,off0)->(∀k U,(Ty.pair a b').nth k=some U->S.nth (n+k)=some U/\off0+S.offn (n+k)=off+(Ty.pair a b').offn k)->
   (CT.pair (rI o a none (p++[.f n]) x.1) (rI o b' (some (n+1)) p x.2)).cells P φ w Av al (fX l off (a.sz+b'.sz))/\
   ∀q∈(CT.pair (rI o a none (p++[.f n]) x.1) (rI o b' (some (n+1)) p x.2)).named,q=o:=by
   intro n S off0 hS hk
   obtain⟨k1,k2⟩:=hk 0 a rfl
   simp only[Nat.add_zero,Ty.offn] at k1 k2
   have hr:=aFM hS k1
   rw[k2] at hr
   obtain⟨g1,g2⟩:=aED hb a none (p++[.f n]) x.1 off (by omega) h1 hr
   obtain⟨g3,g4⟩:=aED hb b' (some (n+1)) p x.2 (off+a.sz) (by omega) h2 ⟨S,off0,hS,fun k U hkU=>by
    obtain⟨j1,j2⟩:=hk (k+1) U hkU
    have e:n+1+k=n+(k+1):=by omega
    rw[e]
    refine⟨j1,?_⟩
    rw[j2];simp only[Ty.offn];omega⟩
   rw[rY]
   refine⟨⟨_,_,rfl,g1,g3⟩,fun q hq=>?_⟩
   simp only[CT.named,Zp] at hq
   exact hq.elim (g2 q) (g4 q)
  cases m with
  |none=>
   simp only[rI,Zi]
   split
   . rename_i hfl
     refine⟨?_,fun q hq=>by cases hq⟩
     have hr:qW w (.pair a b') x (fX l off (a.sz+b'.sz)) F:=by
      rw[rY];exact⟨_,_,F1,F2,rfl,hF,hd,h1,h2⟩
     exact jO _ (fun q hq=>(sD _ hfl hr q hq).elim) hr
   . exact main 0 (.pair a b') off hm (fun k U hkU=>by rw[Nat.zero_add];exact⟨hkU,rfl⟩)
  |some n=>
   obtain⟨S,off0,hS,hk⟩:=hm
   exact main n S off0 hS hk
end
section
variable {cx:Cx} {φ:Nat->dJ} {ψ:Nat->Nat->Prop} {w:World} {Av:Nat->Prop} {objs:List (Nat×Obj)} {E:eI} {e:uM}
theorem tO(b off n:Nat):(⟨b,off,none⟩:Addr).add n=⟨b,off+n,none⟩:=aBV b off n
theorem aAl{P:Program}{T U:Ty}{t:TypeId}{k:Nat}{a:Addr}(ht:pQ P T (.t t)=true)(hn:T.nth k=some U)(hz:U.sz≠0):
 (Instr.fieldAt t (.pointer (some a)) k).run P w=.ok (.pointer (some (a.add (T.offn k)))) w:=by
 obtain⟨fs,f,hu,hfk,ho,hft⟩:=aIc ht hn
 simp only[Instr.fieldAt,Sem.run_bind,run_underlying hu,Result.andThen_ok,hfk,Instr.sureAddr,Sem.run_pure,fieldPlace,xL hft,if_neg hz,ho]
theorem aMj:(U:Ty)->(x:U.D)->{k:Nat}->{V:Ty}->U.nth k=some V->∃y:V.D,U.get [.f k] x=⟨V,y⟩/\(CT.dat U x).fld k=.dat V y:=by
 intro U
 induction U with
 |pair a b iha ihb=>
  intro x k V hn
  cases k with
  |zero=>
   simp only[Ty.nth,Zc] at hn;subst hn
   exact⟨x.1,aDA _ _,rfl⟩
  |succ k=>simp only[Ty.nth] at hn;exact ihb x.2 hn
 |int k=>intro x k V hn;cases hn
 |bool=>intro x k V hn;cases hn
 |str=>intro x k V hn;cases hn
 |op=>intro x k V hn;cases hn
 |sl t e=>intro x k V hn;cases hn
 |unit=>intro x k V hn;cases hn
theorem idx{n:Int}{m:Nat}(h0:0<=n)(h1:n<(m:Int)):n.toNat<m:=by omega
theorem aMo{n:Int}(h0:0<=n)(h1:n<((0:Nat):Int)):False:=by omega
theorem nz{n:Nat}(h:(!Nat.beq n 0)=true):n≠0:=by rintro rfl;cases h
theorem aGB{t:TypeId}{s:SV}{k:Nat}{x:Value}(hE:aS cx.P E)(_hO:iH cx φ ψ Av objs w)(hx:s.rep cx.P φ w Av (bH objs) x)(hk:∀q∈s.named,keys objs q)
 (he:(aBC (E.ty t) s k).ev (find objs)=some e):xI cx φ w Av objs (Instr.fieldAt t x k) e:=by
 unfold aBC at he
 split at he
 . rename_i T o p U hT
   split at he
   . rename_i V hn
     rw[Zi] at he
     split at he
     . rename_i hc
       obtain⟨hc1,hc2⟩:=Bool.and_eq_true_iff.1 hc
       have hz:=nz hc2
       have hUT:U=T:=Ze hc1
       subst hUT
       obtain⟨cs,⟨h1,rfl⟩,rfl⟩:=hx
       obtain⟨h2,h3⟩:=aIp p h1 hn
       refine jA he (aAl (hE.ty _ _ hT) hn hz) ⟨_,⟨h2,rfl⟩,?_⟩ hk
       simp only[CT.isSt,cS,Zj,if_false,List.getD_cons_zero,tO,h3,Nat.add_assoc]
     . cases he
   . cases he
 . rename_i T o p U hT
   split at he
   . rename_i V hn
     rw[Zi] at he
     split at he
     . rename_i hc
       obtain⟨hc1,hc2⟩:=Bool.and_eq_true_iff.1 hc
       have hz:=nz hc2
       have hUT:U=T:=Ze hc1
       subst hUT
       obtain⟨cs,⟨a,rfl,h1⟩,rfl⟩:=hx
       refine jA he (aAl (hE.ty _ _ hT) hn hz) ⟨_,⟨_,rfl,fun ha=>?_⟩,rfl⟩ hk
       obtain⟨b,off,h2,h3⟩:=h1 (ha.imp id aKv)
       exact⟨b,_,aFM h2 hn,by rw[h3,tO]⟩
     . cases he
   . cases he
 . rename_i T U x hT
   split at he
   . rename_i V hn
     rw[Zi] at he
     split at he
     . rename_i hc
       obtain⟨hc1,hc2⟩:=Bool.and_eq_true_iff.1 hc
       have hz:=nz hc2
       have hUT:U=T:=Ze hc1
       subst hUT
       obtain⟨cs,⟨b,off,l,rfl,h1,h2,h3,h4⟩,rfl⟩:=hx
       have hd:(CT.dat U x).cells cx.P φ w Av (bH objs) (fX l off U.sz):=h4
       obtain⟨g1,g2,_,g4⟩:=zD U (.dat U x) hn (by simp[CT.fits]) hd
       obtain⟨y,e1,e2⟩:=aMj U x hn
       rw[e2] at g1
       have g1':vK w Av V y (fX (fX l off U.sz) (U.offn k) V.sz):=g1
       rw[oB h3] at g4
       rw[vJ g4] at g1'
       rw[e1] at he
       refine jA he (aAl (hE.ty _ _ hT) hn hz) ⟨_,⟨b,off+U.offn k,l,rfl,h1,h2,by show off+U.offn k+V.sz<=_;omega,g1'⟩,?_⟩ (fun q hq=>by cases hq)
       simp only[CT.isSt,cS,Zj,if_false,List.getD_cons_zero,tO]
     . cases he
   . cases he
 . cases he
theorem xG{P:Program}{t u:TypeId}{sz:Nat}{a:Addr}{len cap:Nat}{k:IntKind}{n:Int}(hu:P.underlying t=some (.slice u))(hs:(sizeOf u).run P w=.ok sz w)(h0:0<=n)(h1:n<(len:Int)):
 (Instr.indexAt t (.slice (some a) len cap) (.int k n)).run P w=.ok (.pointer (some (a.add (n.toNat * sz)))) w:=by
 simp[Instr.indexAt,asIntOf,Sem.run_bind,Result.andThen_ok,run_underlying hu,hs,h0,h1]
theorem aKJ{t:TypeId}{s i:SV}{x y:Value}(hE:aS cx.P E)(hO:iH cx φ ψ Av objs w)(hx:s.rep cx.P φ w Av (bH objs) x)(hk:∀q∈s.named,keys objs q)(hi:i.rep cx.P φ w Av (bH objs) y)
 (he:(aIJ (E.ty t) s i).ev (find objs)=some e):xI cx φ w Av objs (Instr.indexAt t x y) e:=by
 unfold aIJ at he
 split at he
 . rename_i t1 e1 c k n h1
   cases fR (hE.ty _ _ h1);rename_i hu1 he1
   have hsz:=xL he1 w
   obtain⟨rfl,_⟩:=wJ hi
   split at he
   . rename_i U zs
     obtain⟨xs,g0,hf⟩:=aG he
     clear he
     obtain⟨rfl,rfl⟩:=iJ g0
     obtain⟨g1,hf⟩:=gM hf
     obtain⟨g2,hf⟩:=gM hf
     have g1:(0:Int)<=n:=Ze g1
     have g2:(n:Int)<((length (α:=e1.D) xs:Nat):Int):=Ze g2
     obtain⟨cs,hc,rfl⟩:=hx
     have hc0:vK w Av (.sl t1 e1) xs cs:=hc
     rcases hc0 with⟨h7,h8⟩|⟨b,off,cap',sp,h7,h8,h9,h10⟩
     . have h8':xs=[]:=h8
       subst h8'
       exact(aMo g1 g2).elim
     . subst h7
       have hlt:n.toNat<length (α:=e1.D) xs:=idx g1 g2
       have hxn:(xs:List e1.D)[n.toNat]?=some ((xs:List e1.D)[n.toNat]):=Zm hlt
       rcases h10 with h10|⟨rfl,h11,l,h12,h13,h14⟩
       . have h10':xs=[]:=h10
         subst h10'
         cases hlt
       . simp only[cS,CT.isSt,Ty.isSt,Zj,if_false,List.getD_cons_zero]
         have hmul:=dT (k:=e1.sz) hlt
         refine jA hf (xG hu1 hsz g1 g2) ⟨_,⟨b,off+n.toNat * e1.sz,l,rfl,h11,h12,by omega,?_⟩,?_⟩ (fun q hq=>by cases hq)
         . rw[aC0 hxn];exact h14 _ _ hxn
         . simp only[CT.isSt,cS,Zj,if_false,List.getD_cons_zero,tO]
   . rename_i o
     simp only[M.ev] at he
     split at he
     . rename_i t2 e2 xs ho
       rw[Zi] at he
       split at he
       . rename_i hT
         have hT:Ty.sl t2 e2=Ty.sl t1 e1:=Ze hT
         cases hT
         obtain⟨g1,hf⟩:=gM he
         obtain⟨g2,hf⟩:=gM hf
         have g1:(0:Int)<=n:=Ze g1
         have g2:(n:Int)<((length (α:=e1.D) xs:Nat):Int):=Ze g2
         obtain⟨hee,hr⟩:=hO.reps o _ ho
         obtain⟨cs,⟨rfl,_⟩,rfl⟩:=hx
         simp only[cS,CT.isSt,Zj,if_false,List.getD_cons_zero]
         rcases hr with⟨h9,h10,_⟩|⟨b,off,cap',c,EE,fr,Fs,h9,h10,h11,_⟩
         . have h10':xs=[]:=h10
           subst h10'
           exact(aMo g1 g2).elim
         . simp only[List.cons.injEq,and_true] at h9
           have hlt:n.toNat<length (α:=e1.D) xs:=idx g1 g2
           rw[h9]
           refine jA hf (xG hu1 hsz g1 g2) ⟨[.pointer (some ⟨b,off+n.toNat * e1.sz,none⟩)],⟨⟨b,off+n.toNat * e1.sz,none⟩,rfl,fun _=>⟨b,off+n.toNat * e1.sz,?_,rfl⟩⟩,?_⟩ hk
           . unfold rC
             simp only[h9,if_pos hlt,rX,hee]
           . simp only[CT.isSt,cS,Zj,if_false,List.getD_cons_zero,tO]
       . cases he
     . rename_i t2 e2 m xs ho
       rw[Zi] at he
       split at he
       . rename_i hT
         have hT:Ty.sl t2 e2=Ty.sl t1 e1:=Ze hT
         cases hT
         obtain⟨g1,hf⟩:=gM he
         obtain⟨g2,hf⟩:=gM hf
         have g1:(0:Int)<=n:=Ze g1
         have g2:(n:Int)<((m:Nat):Int):=Ze g2
         obtain⟨hee,⟨_,h0⟩,_⟩:=hO.reps o _ ho
         obtain⟨cs,⟨rfl,_⟩,rfl⟩:=hx
         simp only[cS,CT.isSt,Zj,if_false,List.getD_cons_zero]
         rcases h0 with⟨b,off,cap',h9⟩|⟨h9,rfl⟩
         . have hlt:n.toNat<m:=idx g1 g2
           rw[h9]
           refine jA hf (xG hu1 hsz g1 g2) ⟨[.pointer (some ⟨b,off+n.toNat * e1.sz,none⟩)],⟨⟨b,off+n.toNat * e1.sz,none⟩,rfl,fun _=>⟨b,off+n.toNat * e1.sz,?_,rfl⟩⟩,?_⟩ hk
           . unfold rC
             simp only[h9,if_pos hlt,rX,hee]
           . simp only[CT.isSt,cS,Zj,if_false,List.getD_cons_zero,tO]
         . exact(aMo g1 g2).elim
       . cases he
     . cases he
   . rename_i o p
     simp only[M.ev] at he
     split at he
     . rename_i t2 e2 xs ho
       split at he
       . rename_i u2 d2 ys hg
         rw[Zi] at he
         split at he
         . rename_i hT
           have hT:Ty.sl u2 d2=Ty.sl t1 e1:=Ze hT
           cases hT
           obtain⟨g1,hf⟩:=gM he
           obtain⟨g2,hf⟩:=gM hf
           have g1:(0:Int)<=n:=Ze g1
           have g2:(n:Int)<((length (α:=e1.D) ys:Nat):Int):=Ze g2
           obtain⟨hee,hr⟩:=hO.reps o _ ho
           obtain⟨cs,⟨v,rfl,hv1,hv2⟩,rfl⟩:=hx
           obtain⟨t3,e3,b,off,k1,k2⟩:=hv2 ⟨t2,e2,xs,ho⟩
           obtain⟨y,F',c1,E1,fr1,m1,m2,m3,m4,_⟩:=aEl hee hr k1
           rw[hg] at m1
           injection m1 with m1 m1'
           cases m1
           cases eq_of_heq m1'
           have hs:fX c1.toList off (Ty.sl t1 e1).sz=[x]:=by
            rw[pV m2] at k2
            simp only[Option.bind_some] at k2
            simp only[Ty.sz] at m3 ⊢
            unfold fX
            rw[Zn (by omega),Zm (by omega)] at *
            simp only[Zc] at k2
            rw[k2];rfl
           rw[hs] at m4
           have hlt:n.toNat<length (α:=e1.D) ys:=idx g1 g2
           rcases m4 with⟨h9,h10,_⟩|⟨b1,off1,cap',c,EE,fr,Fs,h9,h10,h11,_⟩
           . have h10':ys=[]:=h10
             subst h10'
             exact(aMo g1 g2).elim
           . simp only[List.cons.injEq,and_true] at h9
             subst h9
             refine jA hf (xG hu1 hsz g1 g2) ⟨[.pointer (some ⟨b1,off1+n.toNat * e1.sz,none⟩)],⟨⟨b1,off1+n.toNat * e1.sz,none⟩,rfl,fun _=>⟨b1,off1+n.toNat * e1.sz,aHh k1 k2 hlt,rfl⟩⟩,?_⟩ hk
             simp only[CT.isSt,cS,Zj,if_false,List.getD_cons_zero,tO]
         . cases he
       . cases he
     . cases he
   . cases he
 . cases he
theorem zL{P:Program}{T:Ty}{t:TypeId}{b off:Nat}{l:List Value}(h:pQ P T (.t t)=true)(hb:blk w b=some l)(hl:off+T.sz<=l.length):
 (Instr.loadAt t (.pointer (some ⟨b,off,none⟩))).run P w=.ok (cS T.isSt (fX l off T.sz)) w:=by
 simp only[Instr.loadAt,Sem.run_bind,Instr.sureAddr,Sem.run_pure,Result.andThen_ok]
 exact aD3 h hb hl
theorem aKx{T:Ty}{o:Nat}{p:List qR}{u:TypeId}{e1:Ty}{m n:Nat}{xs:List e1.D}{f:Nat->Option Obj}(he:(aIn T o p u e1 m xs n).ev f=some e):e.upd≠[]:=by
 unfold aIn at he
 split at he
 . obtain⟨ys,_,he⟩:=aG he
   obtain⟨_,he⟩:=gM he
   obtain⟨_,he⟩:=gM he
   obtain⟨_,_,he⟩:=aG he
   simp only[M.ev,Zc] at he
   subst he
   exact List.cons_ne_nil _ _
 . cases he
theorem aLv{t:TypeId}{s:SV}{x:Value}{n:Nat}(hE:aS cx.P E)(hO:iH cx φ ψ Av objs w)(hx:s.rep cx.P φ w Av (bH objs) x)(hk:∀q∈s.named,keys objs q)(hu:e.upd=[])
 (he:(aHL (E.ty t) s n).ev (find objs)=some e):xI cx φ w Av objs (Instr.loadAt t x) e:=by
 unfold aHL at he
 split at he
 . rename_i T o p U hT
   simp only[M.ev] at he
   split at he
   . rename_i V c ho
     rw[Zi] at he
     split at he
     . rename_i hc
       simp only[Zb,Za] at hc
       obtain⟨rfl,_⟩:=hc
       obtain⟨cs,⟨h1,rfl⟩,rfl⟩:=hx
       obtain⟨g1,g2,mid,g3,g4,g5⟩:=hO.reps o _ ho
       rw[g1] at h1
       obtain⟨k1,k2,k3,k4⟩:=vW p c h1 g2 g3
       have hml:=cells_len g2 g3
       have hbk:=pV g4
       rw[g1]
       have hseg:fX ((φ o).pre++mid++(φ o).post) ((φ o).pre.length+V.offp p) U.sz=fX mid (V.offp p) U.sz:=by
        unfold fX
        rw[<-List.drop_drop,Zk,List.drop_left,List.drop_append,List.take_append]
        rw[Zs]
        have:U.sz-(mid.length-V.offp p)=0:=by omega
        rw[this,List.take_zero,List.append_nil]
       refine jA he (zL (hE.ty _ _ hT) hbk (by simp only[Zf];omega)) ?_ (fun q hq=>hO.names o _ ho q (k3 q hq))
       rw[hseg]
       exact sW k2 k1
     . cases he
   . cases he
 . rename_i T U x hT
   rw[Zi] at he
   split at he
   . rename_i hc
     have:U=T:=Ze hc
     subst this
     obtain⟨cs,⟨b,off,l,rfl,h1,h2,h3,h4⟩,rfl⟩:=hx
     exact jA he (zL (hE.ty _ _ hT) h2 h3) ⟨_,h4,rfl⟩ (fun q hq=>by cases hq)
   . cases he
 . rename_i T o p U hT
   simp only[M.ev] at he
   split at he
   . rename_i t1 e1 xs ho
     rw[Zi] at he
     split at he
     . rename_i hc
       have:U=T:=Ze hc
       subst this
       obtain⟨z,g0,hf⟩:=aG he
       clear he
       obtain⟨cs,⟨a,rfl,h1⟩,rfl⟩:=hx
       obtain⟨b,off,h2,rfl⟩:=h1 (.inl ⟨t1,e1,xs,ho⟩)
       obtain⟨hee,hr⟩:=hO.reps o _ ho
       obtain⟨y,F',c1,E1,fr1,k1,k2,k3,k4,_⟩:=aEl hee hr h2
       rw[k1] at g0
       obtain⟨eU,rfl⟩:=iJ g0
       have hbk:=pV k2
       obtain⟨j1,j2⟩:=aED (P:=cx.P) (φ:=φ) (Av:=Av) (al:=bH objs) (o:=o) hbk U none p z off k3 k4 h2
       refine jA hf (zL (hE.ty _ _ hT) hbk k3) ?_ (fun q hq=>by rw[j2 q hq];exact hk o (by simp[SV.named,CT.named]))
       have hst:(rI o U none p z).isSt=U.isSt/\rI o U none p z≠.undef/\rI o U none p z≠.skip:=by
        cases U with
        |op=>exact k4.elim
        |pair a b=>
         simp only[rI,Zi]
         split<;>exact⟨rfl,by simp,by simp⟩
        |_=>exact⟨rfl,by simp[rI],by simp[rI]⟩
       have:(rI o U none p z).val cx.P φ w Av (bH objs) (cS U.isSt (fX c1.toList off U.sz)):=by
        rw[<-hst.1]
        generalize hg:rI o U none p z=g at *
        cases g with
        |undef=>exact absurd rfl hst.2.1
        |skip=>exact absurd rfl hst.2.2
        |_=>exact⟨_,j1,rfl⟩
       exact this
     . cases he
   . rename_i t1 e1 m xs ho
     rw[Zi] at he
     split at he
     . exact absurd hu (aKx he)
     . cases he
   . cases he
 . cases he
end
end Go.Aw
