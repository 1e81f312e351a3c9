/-
 Operations on plain values.
-/
import Derived.Test.YtdlkgkkfpfglbaaGreatAwJ
import Derived.Laws.StructEq
import Derived.Laws.Closers25b
import Derived.Laws.BytesString
namespace Go.Aw
section
variable {P:Program} {φ:Nat->dJ} {w:World} {Av al:Nat->Prop}
theorem aJT{k:IntKind}{n:Int}(h:inK k n):(SV.one (.dat (.int k) n)).rep P φ w Av al (.int k n):=⟨_,⟨rfl,h⟩,rfl⟩
theorem aLI{b:Bool}:(SV.one (.dat .bool b)).rep P φ w Av al (.bool b):=⟨_,rfl,rfl⟩
theorem aNe{s:List UInt8}(h:s.length<=maxLen):(SV.one (.dat .str s)).rep P φ w Av al (.string ⟨s.toArray⟩):=⟨_,⟨rfl,h⟩,rfl⟩
theorem wJ{k:IntKind}{n:Int}{v:Value}(h:(SV.one (.dat (.int k) n)).rep P φ w Av al v):v=.int k n/\inK k n:=by
 obtain⟨cs,⟨rfl,h⟩,rfl⟩:=h;exact⟨rfl,h⟩
theorem aAV{b:Bool}{v:Value}(h:(SV.one (.dat .bool b)).rep P φ w Av al v):v=.bool b:=by
 obtain⟨cs,h,rfl⟩:=h;rw[show cs=_ from h];rfl
theorem aAA{s:List UInt8}{v:Value}(h:(SV.one (.dat .str s)).rep P φ w Av al v):v=.string ⟨s.toArray⟩/\s.length<=maxLen:=by
 obtain⟨cs,⟨rfl,h⟩,rfl⟩:=h;exact⟨rfl,h⟩
end
theorem qK(k:IntKind)(n:Int):inK k (k.wrap n):=wrap_within k n
theorem aLz{k:IntKind}{x y:Int}(h:inK k x):inK k (x.tmod y):=by
 obtain⟨h1,h2⟩:=h
 have h0:k.min<=0:=by cases k<;>decide
 have h0':0<=k.max:=by cases k<;>decide
 rcases Int.le_total 0 x with hx|hx
 . have e1:=Int.tmod_nonneg y hx
   have e2:x.tmod y<=x:=by
    rw[Int.tmod_eq_emod_of_nonneg hx]
    rcases Int.lt_trichotomy y 0 with hy|rfl|hy
    . rw[<-Int.emod_neg]
      exact Int.emod_le_self (by omega) hx
    . simp
    . exact Int.emod_le_self hy hx
   exact⟨Int.le_trans h0 e1,Int.le_trans e2 h2⟩
 . obtain⟨z,rfl⟩:∃z,x=-z:=⟨-x,by omega⟩
   rw[Int.neg_tmod]
   have hz:0<=z:=by omega
   have e1:=Int.tmod_nonneg y hz
   have e2:z.tmod y<=z:=by
    rw[Int.tmod_eq_emod_of_nonneg hz]
    rcases Int.lt_trichotomy y 0 with hy|rfl|hy
    . rw[<-Int.emod_neg]
      exact Int.emod_le_self (by omega) hz
    . simp
    . exact Int.emod_le_self hy hz
   constructor<;>omega
where
 Int.emod_le_self {x y:Int} (_hy:0<y) (hx:0<=x):x%y<=x:=by
  have:=Int.emod_nonneg x (b:=y) (by omega)
  have h:=Int.mul_ediv_add_emod x y
  have h2:0<=y*(x/y):=Int.mul_nonneg (by omega) (Int.ediv_nonneg hx (by omega))
  omega
theorem aMx{k:IntKind}{x:Int}(n:Nat)(h:inK k x):inK k (x.fdiv (2^n)):=by
 obtain⟨h1,h2⟩:=h
 have h0:k.min<=0:=by cases k<;>decide
 have h0':0<=k.max:=by cases k<;>decide
 have hp:(0:Int)<2^n:=Int.pow_pos (by omega)
 rw[Int.fdiv_eq_ediv_of_nonneg x (by omega)]
 have hm:=Int.mul_ediv_add_emod x (2^n)
 have hr0:=Int.emod_nonneg x (b:=2^n) (by omega)
 have hr1:=Int.emod_lt_of_pos x hp
 generalize (2:Int)^n=y at *
 generalize x/y=q at *
 generalize x%y=r at *
 rcases Int.le_total 0 q with hq|hq
 . have:q<=y*q:=by
    calc q=1*q:=by omega
     _<=y*q:=Int.mul_le_mul_of_nonneg_right (by omega) hq
   constructor<;>omega
 . have:y*q<=q:=by
    have:y*q<=1*q:=Int.mul_le_mul_of_nonpos_right (by omega) hq
    omega
   rcases Int.lt_or_le (y*q+r) q with hlt|hge
   . have hq1:q<=-1\/q=0:=by omega
     rcases hq1 with hq1|rfl
     . exact⟨by omega,by omega⟩
     . omega
   . rcases Int.lt_or_le q k.min with hlt'|hge'
     . exfalso
       have h3:(y-1)*q<=(y-1)*(-1):=Int.mul_le_mul_of_nonneg_left (by omega) (by omega)
       have h4:(y-1)*q=y*q-q:=by rw[Int.sub_mul];omega
       omega
     . exact⟨hge',by omega⟩
structure zA(P:Program)(φ:Nat->dJ)(w:World)(Av al:Nat->Prop)(keys:Nat->Prop)(r:Sem Value)(e:uM):Prop where
 ex:∃v,r.run P w=.ok v w/\e.val.rep P φ w Av al v
 upd:e.upd=[]
 kill:e.kill=none
 names:∀q∈e.val.named,keys q
section
variable {P:Program} {φ:Nat->dJ} {w:World} {Av al keys:Nat->Prop} {f:Nat->Option Obj} {e:uM}
theorem jA{r:Sem Value}{c:CT}{v:Value}(he:(ok c).ev f=some e)(hr:r.run P w=.ok v w)(hv:(SV.one c).rep P φ w Av al v)(hn:∀q∈c.named,keys q):zA P φ w Av al keys r e:=by
 simp only[ok,M.ev,Zc] at he
 subst he
 exact⟨⟨v,hr,hv⟩,rfl,rfl,hn⟩
theorem iB{r:Sem Value}{k:IntKind}{n:Int}(he:(ok (.dat (.int k) n)).ev f=some e)(hr:r.run P w=.ok (.int k n) w)(hk:inK k n):zA P φ w Av al keys r e:=
 jA he hr (aJT hk) fun q hq=>by cases hq
theorem mB{r:Sem Value}{b:Bool}(he:(ok (.dat .bool b)).ev f=some e)(hr:r.run P w=.ok (.bool b) w):zA P φ w Av al keys r e:=
 jA he hr aLI fun q hq=>by cases hq
theorem aB2{r:Sem Value}{s:List UInt8}(he:(ok (.dat .str s)).ev f=some e)(hr:r.run P w=.ok (.string ⟨s.toArray⟩) w)(hs:s.length<=maxLen):zA P φ w Av al keys r e:=
 jA he hr (aNe hs) fun q hq=>by cases hq
theorem aDR(x y:Int):(x==y)=decide (x=y):=rfl
theorem aEV(x y:Int):(x !=y)=!decide (x=y):=rfl
theorem aKU{op:BinOp}{k:IntKind}{x y:Int}{t:TypeId}(hx:inK k x)(_hy:inK k y)(h1:op≠.shl)(h2:op≠.shr)(he:(aLM op k x y).ev f=some e):
 zA P φ w Av al keys (binOp op t (.int k x) (.int k y)) e:=by
 cases op
 case shl=>exact absurd rfl h1
 case shr=>exact absurd rfl h2
 case add=>exact iB he (by simp[binOp,Op.intArith]) (qK _ _)
 case sub=>exact iB he (by simp[binOp,Op.intArith]) (qK _ _)
 case mul=>exact iB he (by simp[binOp,Op.intArith]) (qK _ _)
 case quo=>
  obtain⟨h3,he⟩:=gM he
  have h3':¬y=0:=by simpa using h3
  exact iB he (by simp[binOp,Op.intDiv,h3']) (qK _ _)
 case rem=>
  obtain⟨h3,he⟩:=gM he
  have h3':¬y=0:=by simpa using h3
  exact iB he (by simp[binOp,Op.intDiv,h3']) (aLz hx)
 case and=>exact iB he (by simp[binOp,Op.intBits,intBits]) (qK _ _)
 case or=>exact iB he (by simp[binOp,Op.intBits,intBits]) (qK _ _)
 case xor=>exact iB he (by simp[binOp,Op.intBits,intBits]) (qK _ _)
 case andNot=>exact iB he (by simp[binOp,Op.intBits,intBits]) (qK _ _)
 case eql=>exact mB he (by simp only[binOp,Op.intCmp,ne_eq,not_true,if_false,Sem.run_pure,aDR])
 case neq=>exact mB he (by simp only[binOp,Op.intCmp,ne_eq,not_true,if_false,Sem.run_pure,aEV])
 case lss=>exact mB he (by simp only[binOp,Op.intCmp,ne_eq,not_true,if_false,Sem.run_pure])
 case leq=>exact mB he (by simp only[binOp,Op.intCmp,ne_eq,not_true,if_false,Sem.run_pure])
 case gtr=>exact mB he (by simp only[binOp,Op.intCmp,ne_eq,not_true,if_false,Sem.run_pure])
 case geq=>exact mB he (by simp only[binOp,Op.intCmp,ne_eq,not_true,if_false,Sem.run_pure])
theorem aD1{op:BinOp}{k k':IntKind}{x y:Int}{t:TypeId}(hx:inK k x)(h:op=.shl\/op=.shr)(he:(aE5 op k x y).ev f=some e):
 zA P φ w Av al keys (binOp op t (.int k x) (.int k' y)) e:=by
 rcases h with rfl|rfl
 . obtain⟨h3,he⟩:=gM he
   have h3':¬y<0:=by simpa using h3
   exact iB he (by simp[binOp,Op.shift,h3']) (qK _ _)
 . obtain⟨h3,he⟩:=gM he
   have h3':¬y<0:=by simpa using h3
   exact iB he (by simp[binOp,Op.shift,h3']) (aMx _ hx)
theorem aB0(l:List UInt8):(⟨l.toArray⟩:ByteArray).toList=l:=by rw[ByteArray.toList_eq]
theorem aKX(a b:List UInt8):(⟨a.toArray⟩:ByteArray)++⟨b.toArray⟩=⟨(a++b).toArray⟩:=by
 apply ByteArray.ext
 rw[ByteArray.data_append]
 simp
theorem aKm{op:BinOp}{x y:List UInt8}{t:TypeId}(he:(aM1 op x y).ev f=some e):zA P φ w Av al keys (binOp op t (.string ⟨x.toArray⟩) (.string ⟨y.toArray⟩)) e:=by
 cases op<;>first|(cases he;done)|skip
 case add=>
  obtain⟨h3,he⟩:=gM he
  have h3':x.length+y.length<=lT:=by simpa using h3
  refine aB2 he ?_ (by rw[Zf];exact Nat.le_trans h3' (by unfold maxLen lT;decide))
  have e1:(⟨x.toArray⟩:ByteArray).size=x.length:=rfl
  have e2:(⟨y.toArray⟩:ByteArray).size=y.length:=rfl
  have h4:¬(((x.length+y.length:Nat):Int)>IntKind.i64.max):=by
   have:IntKind.i64.max=9223372036854775807:=rfl
   rw[this];unfold lT at h3';omega
  simp only[binOp,Op.stringOp,e1,e2,if_neg h4,Sem.run_pure,aKX]
 case eql=>exact mB he (by simp only[binOp,Op.stringOp,aB0,Sem.run_pure])
 case neq=>exact mB he (by simp only[binOp,Op.stringOp,aB0,Sem.run_pure])
end
theorem aLt{P:Program}{d:Nat}{xs ys:Array Value}{f:Field}{fs:List Field}{a b:Value}{r s:Bool}{w:World}(hn:(f.name != "_")=true)(ha:(part f.type xs f.offset).run P w=.ok a w)
 (hb:(part f.type ys f.offset).run P w=.ok b w) (he:(Op.equalIn d f.type a b).run P w=.ok r w) (hr:(Op.eqFields d xs ys fs).run P w=.ok s w):(Op.eqFields d xs ys (f::fs)).run P w=.ok (r&&s) w:=by
 have hn':f.name≠ "_" :=by simpa using hn
 rw[Op.eqFields]
 simp only[if_pos hn',Sem.run_bind,ha,hb,he,Result.andThen_ok]
 cases r
 . simp
 . simpa using hr
theorem aEz{P:Program}{w:World}{T:Ty}{t:TypeId}(h:pQ P T (.t t)=true){cs:List Value}{off:Nat}(hl:off+T.sz<=cs.length):(part t cs.toArray off).run P w=.ok (cS T.isSt (fX cs off T.sz)) w:=by
 simp only[part,Sem.run_bind,aMb h,Result.andThen_ok]
 cases hst:T.isSt with
 |true=>
  simp only[if_true,Sem.run_bind,xL h,Result.andThen_ok,Sem.run_pure,cS]
  congr 2
  apply Array.ext'
  simp only[Array.toList_extract,List.extract_eq_take_drop,fX]
  congr 1;omega
 |false=>
  have hs:=aCv hst
  have hlt:off<cs.length:=by omega
  simp only[Zj,if_false,cS]
  rw[List.getElem?_toArray,Zm hlt]
  simp only[Sem.run_pure]
  congr 1
  unfold fX
  rw[hs,List.getD_eq_getElem?_getD,List.getElem?_take_of_lt (by omega),List.getElem?_drop,Nat.add_zero,Zm hlt]
  rfl
theorem aLi{a b:Ty}{x y:(Ty.pair a b).D}:(Ty.pair a b).beq x y=(a.beq x.1 y.1&&b.beq x.2 y.2):=by
 cases b<;>simp[Ty.beq]
def EqT(P:Program)(w:World)(T:Ty):Prop:=∀(t:TypeId) (d:Nat) (x y:T.D) (Av Av':Nat->Prop) (cs ds:List Value),pQ P T (.t t)=true->T.cmp=true->T.dep<d->vK w Av T x cs->vK w Av' T y ds->
 (Op.equalIn d t (cS T.isSt cs) (cS T.isSt ds)).run P w=.ok (T.beq x y) w
def EqF(P:Program)(w:World)(T:Ty):Prop:=∀(l:List Field) (off d:Nat) (x y:T.D) (Av Av':Nat->Prop) (cs ds p q:List Value),pQ P T (.fs l off)=true->T.cmp=true->T.dep<=d->p.length=off->q.length=off->vK w Av T x cs->vK w Av' T y ds->
 (Op.eqFields d (p++cs).toArray (q++ds).toArray l).run P w=.ok (T.beq x y) w
theorem aGQ{P:Program}{w:World}(T:Ty):EqT P w T/\EqF P w T:=by
 induction T with
 |int k=>
  refine⟨fun t d x y _ _ cs ds ht _ hd hx hy=>?_,fun l off d x y _ _ cs ds p q h=>by simp[pQ] at h⟩
  cases fR ht
  rename_i hu
  obtain⟨d,rfl⟩:∃n,d=n+1:=⟨d-1,by omega⟩
  rw[hx.1,hy.1]
  simp only[cS,Ty.isSt,Zj,if_false,List.getD_cons_zero]
  rw[run_equalIn_int w d t k k x y hu];rfl
 |bool=>
  refine⟨fun t d x y _ _ cs ds ht _ hd hx hy=>?_,fun l off d x y _ _ cs ds p q h=>by simp[pQ] at h⟩
  cases fR ht
  rename_i hu
  obtain⟨d,rfl⟩:∃n,d=n+1:=⟨d-1,by omega⟩
  rw[show cs=_ from hx,show ds=_ from hy]
  simp only[cS,Ty.isSt,Zj,if_false,List.getD_cons_zero]
  rw[run_equalIn_bool' w d t x y hu];rfl
 |str=>
  refine⟨fun t d x y _ _ cs ds ht _ hd hx hy=>?_,fun l off d x y _ _ cs ds p q h=>by simp[pQ] at h⟩
  cases fR ht
  rename_i hu
  obtain⟨d,rfl⟩:∃n,d=n+1:=⟨d-1,by omega⟩
  rw[hx.1,hy.1]
  simp only[cS,Ty.isSt,Zj,if_false,List.getD_cons_zero]
  rw[run_equalIn_string w d t _ _ hu,aB0,aB0];rfl
 |op=>exact⟨fun t d x y _ _ cs ds ht h=>(by cases h),fun l off d x y _ _ cs ds p q h=>by simp[pQ] at h⟩
 |sl u e _=>exact⟨fun t d x y _ _ cs ds ht h=>(by cases h),fun l off d x y _ _ cs ds p q h=>by simp[pQ] at h⟩
 |unit=>
  refine⟨fun t d x y _ _ cs ds ht=>by simp[pQ] at ht,fun l off d x y _ _ cs ds p q h _ _ _ _ _ _=>?_⟩
  cases l with
  |nil=>rfl
  |cons f r=>simp[pQ] at h
 |pair a b iha ihb=>
  have hF:EqF P w (.pair a b):=by
   intro l off d x y Av Av' cs ds p q h hc hd hp hq hx hy
   cases l with
   |nil=>simp[pQ] at h
   |cons f r=>
    simp only[pQ,Zb,Nat.beq_eq] at h
    obtain⟨⟨⟨ho,hn⟩,ha⟩,hb⟩:=h
    simp only[Ty.cmp,Zb] at hc
    simp only[Ty.dep] at hd
    obtain⟨c1,c2,rfl,hx1,hx2⟩:=hx
    obtain⟨d1,d2,rfl,hy1,hy2⟩:=hy
    have l1:=tE a hx1
    have l2:=tE a hy1
    have e1:=aEz (w:=w) ha (cs:=p++(c1++c2)) (off:=f.offset) (by rw[ho];simp;omega)
    have e2:=aEz (w:=w) ha (cs:=q++(d1++d2)) (off:=f.offset) (by rw[ho];simp;omega)
    have s1:fX (p++(c1++c2)) f.offset a.sz=c1:=by unfold fX;rw[ho,<-hp,List.drop_left,<-l1,List.take_left]
    have s2:fX (q++(d1++d2)) f.offset a.sz=d1:=by unfold fX;rw[ho,<-hq,List.drop_left,<-l2,List.take_left]
    rw[s1] at e1
    rw[s2] at e2
    rw[aLi]
    refine aLt hn e1 e2 (iha.1 f.type d x.1 y.1 Av Av' c1 d1 ha hc.1 (by omega) hx1 hy1) ?_
    have:=ihb.2 r (off+a.sz) d x.2 y.2 Av Av' c2 d2 (p++c1) (q++d1) hb hc.2 (by omega) (by simp[hp,l1]) (by simp[hq,l2]) hx2 hy2
    rw[Zk,Zk] at this
    exact this
  refine⟨fun t d x y Av Av' cs ds ht hc hd hx hy=>?_,hF⟩
  cases fR ht
  rename_i fs hu hs hg hf
  obtain⟨d,rfl⟩:∃n,d=n+1:=⟨d-1,by simp only[Ty.dep] at hd;omega⟩
  have hfo:P.fieldsOf t=fs:=by simp[Program.fieldsOf,hu]
  simp only[cS,Ty.isSt,if_true]
  rw[run_equalIn_struct w d t _ _ (by rw[hfo];exact hu) hs,hfo]
  exact hF fs.toList 0 d x y Av Av' cs ds [] [] hf hc (by omega) rfl rfl hx hy
end Go.Aw
