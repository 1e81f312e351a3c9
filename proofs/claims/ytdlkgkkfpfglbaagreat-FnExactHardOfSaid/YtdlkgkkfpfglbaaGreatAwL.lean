/-
 Operations on values, the rest of those that change nothing.
-/
import Derived.Test.YtdlkgkkfpfglbaaGreatAwK
namespace Go.Aw
open Go.IntKind (wrap)
open List (length)
theorem aK3:IntKind.i64.max=9223372036854775807:=rfl
theorem aJO:IntKind.i64.min=-9223372036854775808:=rfl
theorem wZ{n:Nat}(h:n<=maxLen):inK .i64 (n:Int):=by
 unfold maxLen at h
 constructor
 . rw[aJO];omega
 . rw[aK3];omega
theorem aEn{w:World}{Av:Nat->Prop}{t:TypeId}{e:Ty}{xs:List e.D}{cs:List Value}(h:vK w Av (.sl t e) xs cs):xs.length<=maxLen:=by
 rcases h with⟨_,h⟩|⟨b,off,cap,sp,h1,h2,h3,_⟩
 . rw[show xs=[] from h];exact Nat.zero_le _
 . exact h3
theorem uB{w:World}{Av:Nat->Prop}{t:TypeId}{e:Ty}{xs:List e.D}{cs:List Value}(h:vK w Av (.sl t e) xs cs):∃a cap,cs=[.slice a (length (α:=e.D) xs) cap]/\length (α:=e.D) xs<=cap/\
 True/\(a=none->cap=0):=by
 rcases h with⟨h1,h2⟩|⟨b,off,cap,sp,h1,h2,_⟩
 . have h2':xs=[]:=h2
   subst h2'
   exact⟨none,0,h1,Nat.le_refl _,trivial,fun _=>rfl⟩
 . exact⟨_,cap,h1,h2,trivial,(by intro h;cases h)⟩
section
variable {cx:Cx} {φ:Nat->dJ} {ψ:Nat->Nat->Prop} {w:World} {Av:Nat->Prop} {objs:List (Nat×Obj)} {E:eI} {e:uM}
def keys(objs:List (Nat×Obj))(q:Nat):Prop:=(find objs q).isSome=true
abbrev xI(cx:Cx)(φ:Nat->dJ)(w:World)(Av:Nat->Prop)(objs:List (Nat×Obj)):=zA cx.P φ w Av (bH objs) (keys objs)
theorem aAC{P:Program}{op:BinOp}{t:TypeId}{x y:Operand}{k k':IntKind}{a b:Int}:(eqGuard op t x y (.int k a) (.int k' b)).run P w=.ok () w:=by
 unfold eqGuard;cases op<;>rfl
theorem aId{P:Program}{op:BinOp}{t:TypeId}{x y:Operand}{a b:ByteArray}:(eqGuard op t x y (.string a) (.string b)).run P w=.ok () w:=by
 unfold eqGuard;cases op<;>rfl
theorem aBW{P:Program}{op:BinOp}{t:TypeId}{x y:Operand}{a b:Bool}:(eqGuard op t x y (.bool a) (.bool b)).run P w=.ok () w:=by
 unfold eqGuard;cases op<;>rfl
theorem aCZ{P:Program}{op:BinOp}{t:TypeId}{x y:Operand}{a b:Array Value}(h:P.eqGuardType P.depth t=false):(eqGuard op t x y (.agg a) (.agg b)).run P w=.ok () w:=by
 unfold eqGuard;cases op<;>first|rfl|simp[h]
theorem aMi{P:Program}{t:TypeId}{a b:Array Value}{r:Bool}(h:(Op.equalIn 10000 t (.agg a) (.agg b)).run P w=.ok r w):(binOp .eql t (.agg a) (.agg b)).run P w=.ok (.bool r) w:=by
 rw[run_eql_struct,h];rfl
theorem aMs{P:Program}{t:TypeId}{a b:Array Value}{r:Bool}(h:(Op.equalIn 10000 t (.agg a) (.agg b)).run P w=.ok r w):(binOp .neq t (.agg a) (.agg b)).run P w=.ok (.bool (!r)) w:=by
 rw[run_neq_struct,h];rfl
theorem zA.guard{P:Program}{al ks:Nat->Prop}{g:Sem Unit}{r:Sem Value}(h:zA P φ w Av al ks r e)(hg:g.run P w=.ok () w):zA P φ w Av al ks (do g;r) e:=by
 obtain⟨⟨v,h1,h2⟩,h3,h4,h5⟩:=h
 exact⟨⟨v,by simp only[Sem.run_bind,hg,Result.andThen_ok];exact h1,h2⟩,h3,h4,h5⟩
theorem hN{P:Program}{al:Nat->Prop}{c:CT}{v:Value}(h:c.val P φ w Av al v)(h1:c≠.undef)(h2:c≠.skip):∃cs,c.cells P φ w Av al cs/\v=cS c.isSt cs:=by
 cases c<;>first|exact h|exact absurd rfl h1|exact absurd rfl h2
theorem uA{f:Nat->Option Obj}{T:Ty}{c:CT}{x:T.D}(h:(oD T c).ev f=some x):c≠.undef/\c≠.skip:=by
 constructor<;>(rintro rfl;cases T<;>cases h)
theorem aKT{f:Nat->Option Obj}{T:Ty}{c:CT}{x:T.D}(h:(vA T c).ev f=some x):c≠.undef/\c≠.skip:=by
 constructor<;>(rintro rfl;cases T<;>cases h)
theorem aAT{f:Nat->Option Obj}{T:Ty}{c:CT}{x:T.D×List Nat}(h:(nN T c).ev f=some x):c≠.undef/\c≠.skip:=by
 constructor<;>(rintro rfl;cases T<;>cases h)
theorem aMA{op:BinOp}{t:TypeId}{T:Ty}{c d:CT}{x y:Value}{ox oy:Operand}(hO:iH cx φ ψ Av objs w)(ht:pQ cx.P T (.t t)=true)
 (hx:c.val cx.P φ w Av (bH objs) x) (hy:d.val cx.P φ w Av (bH objs) y)
 (he:(bif T.isSt&&T.cmp&&Nat.blt T.dep 9000 then
  (oD T c).bind fun a=>(oD T d).bind fun b=>
   match op with
   |.eql=>ok (.dat .bool (T.beq a b))
   |.neq=>ok (.dat .bool (!(T.beq a b)))
   |_=>.fail
  else .fail:M uM).ev (find objs)=some e):xI cx φ w Av objs (do eqGuard op t ox oy x y;binOp op t x y) e:=by
 rw[Zi] at he
 split at he
 . rename_i hc
   simp only[Zb,Nat.blt_eq] at hc
   obtain⟨⟨h1,h2⟩,h3⟩:=hc
   obtain⟨a,h4,he⟩:=aG he
   obtain⟨b,h5,he⟩:=aG he
   obtain⟨d1,d2⟩:=uA h4
   obtain⟨d3,d4⟩:=uA h5
   obtain⟨cs,h6,rfl⟩:=hN hx d1 d2
   obtain⟨ds,h7,rfl⟩:=hN hy d3 d4
   obtain⟨h8,h9⟩:=sQ hO T c h4 h6
   obtain⟨h10,h11⟩:=sQ hO T d h5 h7
   have key:=(aGQ (P:=cx.P) (w:=w) T).1 t 10000 a b _ _ cs ds ht h2 (by omega) h8 h10
   rw[h9.trans h1,h11.trans h1]
   rw[h1] at key
   simp only[cS,if_true] at key ⊢
   cases T with
   |unit=>simp[pQ] at ht
   |pair A B=>
    cases fR ht
    rename_i fs hu hs hg hf
    cases op<;>first|(cases he;done)|skip
    case eql=>exact(mB he (aMi key)).guard (aCZ hg)
    case neq=>exact(mB he (aMs key)).guard (aCZ hg)
   |int k=>cases h1
   |bool=>cases h1
   |str=>cases h1
   |op=>cases h1
   |sl u e=>cases h1
 . cases he
theorem aNv{P:Program}{t:TypeId}{a b:Bool}(hb:P.underlying t=some .bool):(binOp .eql t (.bool a) (.bool b)).run P w=.ok (.bool (a==b)) w:=by
 simp only[binOp,Sem.run_bind,Op.equal,Op.maxDepth]
 rw[run_equalIn_bool' w 9999 t a b hb];rfl
theorem aMH{P:Program}{t:TypeId}{a b:Bool}(hb:P.underlying t=some .bool):(binOp .neq t (.bool a) (.bool b)).run P w=.ok (.bool (!(a==b))) w:=by
 simp only[binOp,Sem.run_bind,Op.equal,Op.maxDepth]
 rw[run_equalIn_bool' w 9999 t a b hb];rfl
theorem aN2{op:BinOp}{t:TypeId}{s1 s2:SV}{x y:Value}{ox oy:Operand}(hE:aS cx.P E)(hO:iH cx φ ψ Av objs w)
 (hx:s1.rep cx.P φ w Av (bH objs) x) (hy:s2.rep cx.P φ w Av (bH objs) y) (he:(aO6 op (E.ty t) s1 s2).ev (find objs)=some e):
 xI cx φ w Av objs (do eqGuard op t ox oy x y;binOp op t x y) e:=by
 unfold aO6 at he
 split at he
 . rename_i k a k' b
   obtain⟨rfl,h1⟩:=wJ hx
   obtain⟨rfl,h2⟩:=wJ hy
   split at he
   . exact(aD1 h1 (.inl rfl) he).guard aAC
   . exact(aD1 h1 (.inr rfl) he).guard aAC
   . rename_i h3 h4
     rw[Zi] at he
     split at he
     . rename_i hk
       have hk:k=k':=Ze hk
       subst hk
       exact(aKU h1 h2 h3 h4 he).guard aAC
     . cases he
 . obtain⟨rfl,h1⟩:=aAA hx
   obtain⟨rfl,h2⟩:=aAA hy
   exact(aKm he).guard aId
 . rename_i a b
   have:=aAV hx;subst this
   have:=aAV hy;subst this
   cases hT:E.ty t with
   |none=>rw[hT] at he;cases he
   |some T=>
    rw[hT] at he
    cases T<;>first|(cases he;done)|skip
    cases fR (hE.ty t _ hT)
    rename_i hu
    cases op<;>first|(cases he;done)|skip
    case eql=>exact(mB he (aNv hu)).guard aBW
    case neq=>exact(mB he (aMH hu)).guard aBW
 . rename_i c d _ _ _
   cases hT:E.ty t with
   |none=>rw[hT] at he;cases he
   |some T=>
    rw[hT] at he
    exact aMA hO (hE.ty t T hT) hx hy he
 . cases he
theorem zD{P:Program}{al:Nat->Prop}:(T:Ty)->(c:CT)->{k:Nat}->{U:Ty}->{cs:List Value}->T.nth k=some U->c.fits T=true->c.cells P φ w Av al cs->
 (c.fld k).cells P φ w Av al (fX cs (T.offn k) U.sz)/\(c.fld k).fits U=true/\(∀q∈(c.fld k).named,q∈c.named)/\T.offn k+U.sz<=cs.length:=by
 intro T
 induction T with
 |pair a b iha ihb=>
  intro c k U cs hn hf hc
  cases c with
  |dat V x=>
   have hV:V=.pair a b:=Ze hf
   subst hV
   obtain⟨c1,c2,rfl,h1,h2⟩:=hc
   have l1:=tE a h1
   have l2:=tE b h2
   cases k with
   |zero=>
    simp only[Ty.nth,Zc] at hn;subst hn
    refine⟨?_,by simp[CT.fld,CT.fits],(fun q hq=>by cases hq),by simp[Ty.offn];omega⟩
    simp only[CT.fld,Ty.offn]
    show vK w Av a x.1 _
    have:fX (c1++c2) 0 a.sz=c1:=by unfold fX;rw[List.drop_zero,<-l1,List.take_left]
    rw[this];exact h1
   |succ k=>
    simp only[Ty.nth] at hn
    obtain⟨h3,h4,h5,h6⟩:=ihb (.dat b x.2) hn (by simp[CT.fits]) h2
    refine⟨?_,h4,h5,by simp only[Ty.offn,Zf];omega⟩
    simp only[CT.fld,Ty.offn]
    have:fX (c1++c2) (a.sz+b.offn k) U.sz=fX c2 (b.offn k) U.sz:=by
     unfold fX;rw[<-l1,<-List.drop_drop,List.drop_left]
    rw[this];exact h3
  |pair c d=>
   simp only[CT.fits,Zb] at hf
   obtain⟨c1,c2,rfl,h1,h2⟩:=hc
   have l1:=cells_len a c hf.1 h1
   have l2:=cells_len b d hf.2 h2
   cases k with
   |zero=>
    simp only[Ty.nth,Zc] at hn;subst hn
    refine⟨?_,hf.1,fun q hq=>by simp only[CT.named,Zp];exact .inl hq,by simp[Ty.offn];omega⟩
    simp only[CT.fld,Ty.offn]
    have:fX (c1++c2) 0 a.sz=c1:=by unfold fX;rw[List.drop_zero,<-l1,List.take_left]
    rw[this];exact h1
   |succ k=>
    simp only[Ty.nth] at hn
    obtain⟨h3,h4,h5,h6⟩:=ihb d hn hf.2 h2
    refine⟨?_,h4,fun q hq=>by simp only[CT.named,Zp];exact .inr (h5 q hq),by simp only[Ty.offn,Zf];omega⟩
    simp only[CT.fld,Ty.offn]
    have:fX (c1++c2) (a.sz+b.offn k) U.sz=fX c2 (b.offn k) U.sz:=by
     unfold fX;rw[<-l1,<-List.drop_drop,List.drop_left]
    rw[this];exact h3
  |undef=>simp[CT.fits,Ty.isSt] at hf
  |_=>cases hf
 |int k=>intro c k U cs hn;cases hn
 |bool=>intro c k U cs hn;cases hn
 |str=>intro c k U cs hn;cases hn
 |op=>intro c k U cs hn;cases hn
 |sl t e=>intro c k U cs hn;cases hn
 |unit=>intro c k U cs hn;cases hn
where
 cells_len {P:Program} {al:Nat->Prop}:(T:Ty)->(c:CT)->{cs:List Value}->c.fits T=true->c.cells P φ w Av al cs->cs.length=T.sz:=by
  intro T c
  induction c generalizing T with
  |undef=>intro cs hf hc;obtain⟨v,rfl,_⟩:=hc;simp only[CT.fits,Bool.not_eq_true'] at hf;rw[aCv hf];rfl
  |skip=>intro cs hf hc;exact hc.elim
  |nil=>intro cs hf hc;simp only[CT.cells] at hc;subst hc;cases T<;>first|rfl|cases hf
  |unit=>intro cs hf hc;simp only[CT.cells] at hc;subst hc;cases T<;>first|rfl|cases hf
  |dat V x=>intro cs hf hc;have hV:V=T:=Ze hf;subst hV;exact tE V hc
  |arr o=>intro cs hf hc;obtain⟨rfl,_⟩:=hc;cases T<;>first|rfl|cases hf
  |sub o l h=>intro cs hf hc;obtain⟨v,rfl,_⟩:=hc;cases T<;>first|rfl|cases hf
  |bor o p=>intro cs hf hc;obtain⟨v,rfl,_⟩:=hc;cases T<;>first|rfl|cases hf
  |bptr o p U=>intro cs hf hc;obtain⟨_,rfl⟩:=hc;cases T<;>first|rfl|cases hf
  |eptr o p U=>intro cs hf hc;obtain⟨v,rfl,_⟩:=hc;cases T<;>first|rfl|cases hf
  |dptr U x=>intro cs hf hc;obtain⟨b,off,l,rfl,_⟩:=hc;cases T<;>first|rfl|cases hf
  |clo f c _=>intro cs hf hc;obtain⟨v,rfl,_⟩:=hc;cases T<;>first|rfl|cases hf
  |fn A B p g=>intro cs hf hc;obtain⟨v,rfl,_⟩:=hc;cases T<;>first|rfl|cases hf
  |pair a b iha ihb=>
   intro cs hf hc
   cases T with
   |pair A B=>
    simp only[CT.fits,Zb] at hf
    obtain⟨c1,c2,rfl,h1,h2⟩:=hc
    rw[Zf,iha A hf.1 h1,ihb B hf.2 h2];rfl
   |_=>cases hf
theorem cells_len{P:Program}{al:Nat->Prop}{T:Ty}{c:CT}{cs:List Value}(hf:c.fits T=true)(hc:c.cells P φ w Av al cs):cs.length=T.sz:=zD.cells_len T c hf hc
theorem yR{c:CT}{T:Ty}(h:c.fits T=true)(hu:c≠.undef):c.isSt=T.isSt:=by
 cases c with
 |dat V x=>have:V=T:=Ze h;subst this;rfl
 |undef=>exact absurd rfl hu
 |_=>cases T<;>first|rfl|cases h
theorem sW{P:Program}{al:Nat->Prop}{c:CT}{T:Ty}{cs:List Value}(hf:c.fits T=true)(hc:c.cells P φ w Av al cs):c.val P φ w Av al (cS T.isSt cs):=by
 by_cases hu:c=.undef
 . subst hu;trivial
 . rw[<-yR hf hu]
   cases c with
   |undef=>exact absurd rfl hu
   |skip=>exact hc.elim
   |_=>exact⟨cs,hc,rfl⟩
end
end Go.Aw
