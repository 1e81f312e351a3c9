/-
 Code.
-/
import Derived.Test.YtdlkgkkfpfglbaaGreatAxB
import Derived.LoopN
namespace Go.Aw
def Ex.to:Ex->Exit
 |.normal=>.normal
 |.exit id=>.exit id
 |.ret=>.ret
section
variable {cx:Cx}
def aO3{R:Type}(cx:Cx)(Q:Exit->Act->World->Prop)(k:Kt R)(r:R):Prop:=∀e σ',k e σ'=some r->∀a' w',vG cx σ' a' w'->Q e.to a' w'
theorem aC7{t:Type}:(p:List (Option Nat))->{l:List qR}->{y:t}->{x:shP p t}->aD4 p l y=some x->mkP p x=(l,y)
 |[],[],y,x,h=>by simp only[aD4,Zc] at h;subst h;rfl
 |[],_::_,y,x,h=>by cases h
 |some n::r,.f m::l,y,x,h=>by
  simp only[aD4,Zi,Nat.beq_eq] at h
  split at h
  . rename_i hm;subst hm
    simp only[mkP,aC7 r h]
  . cases h
 |some n::r,.i m::l,y,x,h=>by cases h
 |some n::r,[],y,x,h=>by cases h
 |none::r,.i m::l,y,x,h=>by
  simp only[aD4] at h
  split at h
  . rename_i z hz
    simp only[Zc] at h;subst h
    simp only[mkP,aC7 r hz]
  . cases h
 |none::r,.f m::l,y,x,h=>by cases h
 |none::r,[],y,x,h=>by cases h
theorem aIl{t:Type}(s:zH)(c:CT)(y:t)(x:s.D t)(h:s.view c y=some x):s.mk x=(c,y):=by
 induction s generalizing t c y with
 |undef=>cases c<;>simp_all [zH.view,zH.mk]
 |skip=>cases c<;>simp_all [zH.view,zH.mk]
 |nil=>cases c<;>simp_all [zH.view,zH.mk]
 |unit=>cases c<;>simp_all [zH.view,zH.mk]
 |dat T=>
  cases c with
  |dat U z=>
   simp only[zH.view] at h
   split at h
   . rename_i e;subst e;simp only[Zc] at h;subst h;rfl
   . cases h
  |_=>cases h
 |arr o=>
  cases c with
  |arr q=>
   simp only[zH.view,Zi,Nat.beq_eq] at h
   split at h
   . rename_i e;subst e;simp only[Zc] at h;subst h;rfl
   . cases h
  |_=>cases h
 |sub o=>
  cases c with
  |sub q l u=>
   simp only[zH.view,Zi,Nat.beq_eq] at h
   split at h
   . rename_i e;subst e;simp only[Zc] at h;subst h;rfl
   . cases h
  |_=>cases h
 |bor o p=>
  cases c with
  |bor q l=>
   simp only[zH.view,Zi,Nat.beq_eq] at h
   split at h
   . rename_i e;subst e;simp only[zH.mk,aC7 p h]
   . cases h
  |_=>cases h
 |bptr o p T=>
  cases c with
  |bptr q l U=>
   simp only[zH.view,Zi,Zb,Nat.beq_eq,Za] at h
   split at h
   . rename_i e;obtain⟨⟨e1,e2⟩,e3⟩:=e;subst e1;subst e2;subst e3
     simp only[Zc] at h;subst h;rfl
   . cases h
  |_=>cases h
 |eptr o p T=>
  cases c with
  |eptr q l U=>
   simp only[zH.view,Zi,Zb,Nat.beq_eq,Za] at h
   split at h
   . rename_i e;obtain⟨e1,e3⟩:=e;subst e1;subst e3
     simp only[zH.mk,aC7 p h]
   . cases h
  |_=>cases h
 |dptr T=>
  cases c with
  |dptr U z=>
   simp only[zH.view] at h
   split at h
   . rename_i e;subst e;simp only[Zc] at h;subst h;rfl
   . cases h
  |_=>cases h
 |clo f s ih=>
  cases c with
  |clo g d=>
   simp only[zH.view,Zi,Nat.beq_eq] at h
   split at h
   . rename_i e;subst e
     have:=ih d y x h
     simp only[zH.mk,this]
   . cases h
  |_=>cases h
 |fn A B=>
  cases c with
  |fn A' B' p g=>
   simp only[zH.view] at h
   split at h
   . rename_i e;obtain⟨e1,e2⟩:=e;subst e1;subst e2
     simp only[Zc] at h;subst h;rfl
   . cases h
  |_=>cases h
 |pair a b iha ihb=>
  cases c with
  |pair c d=>
   simp only[zH.view] at h
   split at h
   . rename_i z hz
     have h1:=ihb d y z hz
     have h2:=iha c z x h
     simp only[zH.mk,h2,h1]
   . cases h
  |_=>cases h
theorem aLP{t:Type}(s:ShS)(c:SV)(y:t)(x:s.D t)(h:s.view c y=some x):s.mk x=(c,y):=by
 cases s<;>cases c<;>simp only[ShS.view] at h<;>first|(cases h;done)|(have:=aIl _ _ _ _ h;simp only[ShS.mk,this])
theorem aLY{t:Type}(s:uN)(c:Obj)(y:t)(x:s.D t)(h:s.view c y=some x):s.mk x=(c,y):=by
 cases s with
 |box T s=>
  cases c with
  |box U d=>
   simp only[uN.view,Zi,Za] at h
   split at h
   . rename_i e;subst e
     have:=aIl _ _ _ _ h
     simp only[uN.mk,this]
   . cases h
  |_=>cases h
 |arr u e=>
  cases c with
  |arr u' e' xs=>
   simp only[uN.view,Zi,Nat.beq_eq] at h
   split at h
   . rename_i e1;subst e1
     split at h
     . rename_i e2;subst e2;simp only[Zc] at h;subst h;rfl
     . cases h
   . cases h
  |_=>cases h
 |rng u e=>
  cases c with
  |rng u' e' m xs=>
   simp only[uN.view,Zi,Nat.beq_eq] at h
   split at h
   . rename_i e1;subst e1
     split at h
     . rename_i e2;subst e2;simp only[Zc] at h;subst h;rfl
     . cases h
   . cases h
  |_=>cases h
 |dead=>
  cases c with
  |dead=>simp only[uN.view,Zc] at h;subst h;rfl
  |_=>cases h
theorem aEs{t:Type}:(l:List ShS)->(cs:List SV)->(y:t)->(x:aF0 l t)->xY l cs y=some x->aDC l x=(cs,y)
 |[],[],y,x,h=>by simp only[xY,Zc] at h;subst h;rfl
 |[],_::_,y,x,h=>by cases h
 |_::_,[],y,x,h=>by cases h
 |s::r,c::cs,y,x,h=>by
  simp only[xY] at h
  split at h
  . rename_i z hz
    have h1:=aEs r cs y z hz
    have h2:=aLP s c z x h
    simp only[aDC,h2,h1]
  . cases h
theorem aFy:(l:List (Nat×uN))->(cs:List (Nat×Obj))->(x:aHN l)->aBO l cs=some x->aGs l x=cs
 |[],[],x,h=>rfl
 |[],_::_,x,h=>by cases h
 |_::_,[],x,h=>by cases h
 |s::r,c::cs,x,h=>by
  simp only[aBO,Zi,Nat.beq_eq] at h
  split at h
  . rename_i e
    split at h
    . rename_i z hz
      have h1:=aFy r cs z hz
      have h2:=aLY s.2 c.2 z x h
      simp only[aGs,h2,h1,<-e]
    . cases h
  . cases h
theorem aDE{s:fG}{σ:St}{x:s.D}(h:s.view σ=some x):s.mk' x=σ:=by
 unfold fG.view at h
 split at h
 . rename_i y hy
   have h1:=aFy _ _ _ hy
   have h2:=aEs _ _ _ _ h
   simp only[fG.mk',h2,h1]
 . cases h
theorem aMa{e e':Ex}(h:e.beq e'=true):e=e':=by
 cases e<;>cases e'<;>simp_all [Ex.beq]
theorem aBE{R:Type}{k:Kt R}{e:Ex}{σ:St}:(os:List fQ)->{x:aIj os}->aAx os e σ=some x->∃h,enter os x k=k e (σ.norm (some h))
 |[],x,h=>by cases h
 |[o],x,h=>by
  simp only[aAx,Zi] at h
  split at h
  . rename_i he
    refine⟨o.hint,?_⟩
    rw[<-aDE h,<-aMa he];rfl
  . cases h
 |o::o'::r,x,h=>by
  simp only[aAx] at h
  split at h
  . rename_i y hy
    simp only[Zc] at h;subst h
    simp only[Zi] at hy
    split at hy
    . rename_i he
      refine⟨o.hint,?_⟩
      rw[<-aDE hy,<-aMa he];rfl
    . cases hy
  . split at h
    . rename_i y hy
      simp only[Zc] at h;subst h
      obtain⟨h',e'⟩:=aBE (k:=k) (o'::r) hy
      exact⟨h',e'⟩
    . cases h
def aNN(cx:Cx)(E:eI)(H:List LC)(c:Code):Prop:=
 ∀{R:Type} {r:R} {σ:St} {k:Kt R} {Q:Exit->Act->World->Prop} {a:Act} {w:World},aBI E H c σ k=some r->vG cx σ a w->aO3 cx Q k r->c.wp cx.P Q a w
theorem aK2{E:eI}{H:List LC}{c:Code}{l:LC}{R:Type}{r:R}{k:Kt R}{Q:Exit->Act->World->Prop}(hnorm:∀h σ a w,vG cx σ a w->vG cx (σ.norm h) a w)
 (hb:aNN cx E H c) (μ:l.sh.D->Nat)
 (hl:∀s,l.pre s=true->Rounds l.pre μ l.fn s (l.step E H c s)) (hk:aO3 cx Q k r):
 (n:Nat)->{s:l.sh.D}->{a:Act}->{w:World}->μ s<n->l.pre s=true->enter l.outs (l.fn s) k=some r->vG cx (l.sh.mk' s) a w->Code.rounds cx.P c Q n a w
 |0,s,a,w,hn,_,_,_=>by omega
 |n+1,s,a,w,hn,hp,he,hI=>by
  have h2:=hl s hp
  cases h1:l.step E H c s with
  |none=>rw[h1] at h2;exact h2.elim
  |some q=>
  rw[h1] at h2
  refine hb h1 hI fun e σ' he' a' w' hI'=>?_
  cases e with
  |normal=>
   simp only[LC.round] at he'
   split at he'
   . rename_i s' hs
     simp only[Zc] at he';subst he'
     obtain⟨g1,g2,g3⟩:=h2
     have hI2:=hnorm (some l.hint) _ _ _ hI'
     rw[<-aDE hs] at hI2
     exact aK2 hnorm hb μ hl hk n (by omega) g1 (by rw[g3];exact he) hI2
   . cases he'
  |exit id=>
   simp only[LC.round] at he'
   split at he'
   . rename_i o ho
     simp only[Zc] at he';subst he'
     obtain rfl:=h2
     obtain⟨h,g⟩:=aBE (k:=k) _ ho
     rw[g] at he
     exact hk _ _ he a' w' (hnorm _ _ _ _ hI')
   . cases he'
  |ret=>
   simp only[LC.round] at he'
   split at he'
   . rename_i o ho
     simp only[Zc] at he';subst he'
     obtain rfl:=h2
     obtain⟨h,g⟩:=aBE (k:=k) _ ho
     rw[g] at he
     exact hk _ _ he a' w' (hnorm _ _ _ _ hI')
   . cases he'
theorem xF{E:eI}{H:List LC}(hE:aS cx.P E)(hm:cx.P.follows .mixedOrders=true)(hnorm:∀h σ a w,vG cx σ a w->vG cx (σ.norm h) a w):(c:Code)->aH E H c->{R:Type}->{r:R}->{σ:St}->{k:Kt R}->{Q:Exit->Act->World->Prop}->{a:Act}->{w:World}->
 aBI E H c σ k=some r->vG cx σ a w->aO3 cx Q k r->c.wp cx.P Q a w
 |.skip,hL,R,r,σ,k,Q,a,w,he,hI,hk=>wp_skip (hk .normal σ he a w hI)
 |.exit id,hL,R,r,σ,k,Q,a,w,he,hI,hk=>wp_exit (hk (.exit id) σ he a w hI)
 |.ret,hL,R,r,σ,k,Q,a,w,he,hI,hk=>wp_ret (hk .ret σ he a w hI)
 |.region id ops draw,hL,R,r,σ,k,Q,a,w,he,hI,hk=>by
  simp only[aBI] at he
  obtain⟨σ',L',h1,h2⟩:=aCw ops.toList 0 σ [] (fun j=>by rw[Nat.zero_add]) he
  rw[Zi] at h2
  split at h2
  . rename_i ho
    exact aKd hE hm hI h1 ho fun a' w' hI'=>hk .normal σ' h2 a' w' hI'
  . cases h2
 |.seq x y,hL,R,r,σ,k,Q,a,w,he,hI,hk=>by
  simp only[aBI] at he
  refine wp_seq (xF hE hm hnorm x (fun d hd=>hL d (Zp.2 (.inl hd))) he hI fun e σ' he' a' w' hI'=>?_)
  cases e with
  |normal=>exact xF hE hm hnorm y (fun d hd=>hL d (Zp.2 (.inr hd))) he' hI' hk
  |exit id=>exact hk _ _ he' a' w' hI'
  |ret=>exact hk _ _ he' a' w' hI'
 |.cond c x y,hL,R,r,σ,k,Q,a,w,he,hI,hk=>by
  simp only[aBI] at he
  split at he
  . rename_i b hc
    have hI0:=hI
    obtain⟨_,φ,ψ,Av,_,hS⟩:=hI0
    have hx:=(aBs hS c).1
    rw[hc] at hx
    have hv:=aAV hx
    refine wp_cond_split hv (fun hb=>?_) (fun hb=>?_)
    . have hb':b=true:=hb
      rw[if_pos hb'] at he
      exact xF hE hm hnorm x (fun d hd=>hL d (Zp.2 (.inl hd))) he hI hk
    . have hb':¬b=true:=by rw[show b=false from hb];simp
      rw[if_neg hb'] at he
      exact xF hE hm hnorm y (fun d hd=>hL d (Zp.2 (.inr hd))) he hI hk
  . cases he
 |.block id c,hL,R,r,σ,k,Q,a,w,he,hI,hk=>by
  simp only[aBI] at he
  refine wp_block (xF hE hm hnorm c hL he hI fun e σ' he' a' w' hI'=>?_)
  cases e with
  |normal=>exact hk _ _ he' a' w' hI'
  |exit id'=>
   simp only[Zi,Nat.beq_eq] at he'
   simp only[Ex.to,Exit.inBlock]
   split at he'
   . rename_i hid
     subst hid
     simp only[if_true]
     exact hk _ _ he' a' w' hI'
   . rename_i hid
     simp only[if_neg hid]
     exact hk _ _ he' a' w' hI'
  |ret=>exact hk _ _ he' a' w' hI'
 |.loop c,hL,R,r,σ,k,Q,a,w,he,hI,hk=>by
  simp only[aBI] at he
  split at he
  . cases he
  . rename_i l hl
    split at he
    . cases he
    . rename_i s hs
      split at he
      . rename_i hp
        obtain⟨μ,h1⟩:=hL c (List.mem_cons_self ..) l hl
        have hI2:=hnorm (some l.hint) _ _ _ hI
        rw[<-aDE hs] at hI2
        exact wp_loop_rounds (μ s+1) (aK2 hnorm (fun{R r σ k Q a w} h hI hk=>xF hE hm hnorm c (fun d hd=>hL d (Zo _ hd)) h hI hk) μ h1 hk (μ s+1) (by omega) hp he hI2)
      . cases he
 |.goto l,hL,R,r,σ,k,Q,a,w,he,hI,hk=>by cases he
 |.label l,hL,R,r,σ,k,Q,a,w,he,hI,hk=>by cases he
end
end Go.Aw
