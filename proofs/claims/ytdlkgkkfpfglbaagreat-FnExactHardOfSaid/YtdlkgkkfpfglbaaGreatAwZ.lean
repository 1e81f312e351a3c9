/-
 Regions in the order of their text.
-/
import Derived.Test.YtdlkgkkfpfglbaaGreatAwY
namespace Go.Aw
def sR(E:eI)(ops:List Oper)(base:Nat)(i:Nat)(σ:St):Option (St×iT):=
 match ops[i]? with
 |none=>none
 |some o=>
  let one:Option (St×iT):=match(opM E (base+i*32) o σ.at).val (find σ.objs) [] with
   |some (e,l)=>some (σ.apply o.dst e,⟨i,l,e.upd.map (·.1),e.kill.isSome⟩)
   |none=>none
  let no:Option (St×iT):=some (σ.apply o.dst ⟨.one .skip,[],none⟩,⟨i,[],[],false⟩)
  match rQ ops σ o with
  |none=>none
  |some none=>one
  |some (some (x,want,d))=>bif aAJ (pX σ.slots d) then no else bif x==want then one else no
theorem aFE:(l:List SV)->(d:Nat)->(s:SV)->pX l d=s->(s≠.one .undef\/d<l.length)->tF l d s=l
 |[],_,_,_,_=>rfl
 |a::r,0,s,h,_=>by simp only[pX] at h;subst h;rfl
 |a::r,d+1,s,h,h'=>by
  simp only[pX] at h
  simp only[tF]
  rw[aFE r d s h (h'.imp id (by simp))]
def aAc(E:eI)(ops:List Oper)(base:Nat):List Nat->St->List iT->Option (St×List iT)
 |[],σ,L=>some (σ,L)
 |i::r,σ,L=>match sR E ops base i σ with
  |some (σ',l)=>aAc E ops base r σ' (l::L)
  |none=>none
theorem aCw{R:Type}{E:eI}{ops:List Oper}{base:Nat}{k:St->List iT->Option R}{rX:R}:(rest:List Oper)->(i:Nat)->(σ:St)->(L:List iT)->(∀j,rest[j]?=ops[i+j]?)->
 aIV E ops base rest i σ L k=some rX->∃σ' L',aAc E ops base (List.range' i rest.length) σ L=some (σ',L')/\k σ' L'=some rX
 |[],i,σ,L,_,h=>⟨σ,L,rfl,h⟩
 |o::rest,i,σ,L,ho,h=>by
  have ho0:ops[i]?=some o:=by have:=ho 0;simpa using this.symm
  have hor:∀j,rest[j]?=ops[i+1+j]?:=by
   intro j
   have:=ho (j+1)
   rw[List.getElem?_cons_succ] at this
   rw[this];congr 1;omega
  have hone:∀σ1:St,σ1=σ->((opM E (base+i*32) o σ1.at).run σ1.objs [] fun e l=>aIV E ops base rest (i+1) (σ1.apply o.dst e) (⟨i,l,e.upd.map (·.1),e.kill.isSome⟩::L) k)=some rX->
   ∃σ2 l,(match(opM E (base+i*32) o σ.at).val (find σ.objs) [] with
    |some (e,l)=>some (σ.apply o.dst e,(⟨i,l,e.upd.map (·.1),e.kill.isSome⟩:iT))
    |none=>none)=some (σ2,l)/\∃σ' L',aAc E ops base (List.range' (i+1) rest.length) σ2 (l::L)=some (σ',L')/\k σ' L'=some rX:=by
   rintro σ1 rfl h
   obtain⟨e,l,h1,h2⟩:=aAS _ h
   rw[h1]
   exact⟨_,_,rfl,aCw rest (i+1) _ _ hor h2⟩
  have hno:∀σ1:St,σ1=σ->aIV E ops base rest (i+1) (σ1.apply o.dst ⟨.one .skip,[],none⟩) (⟨i,[],[],false⟩::L) k=some rX->
   ∃σ' L',aAc E ops base (List.range' (i+1) rest.length) (σ.apply o.dst ⟨.one .skip,[],none⟩) (⟨i,[],[],false⟩::L)=some (σ',L')/\k σ' L'=some rX:=by
   rintro σ1 rfl h
   exact aCw rest (i+1) _ _ hor h
  simp only[Zg,List.range'_succ,aAc,sR,ho0]
  simp only[aIV] at h
  cases hg:rQ ops σ o with
  |none=>rw[hg] at h;cases h
  |some g=>
   rw[hg] at h
   cases g with
   |none=>
    simp only[] at h ⊢
    obtain⟨σ2,l,h1,h2⟩:=hone σ rfl h
    rw[h1];exact h2
   |some g=>
    obtain⟨x,want,d⟩:=g
    simp only[] at h ⊢
    cases hs:aAJ (pX σ.slots d) with
    |true=>
     rw[hs] at h
     simp only[cond_true] at h ⊢
     exact hno σ rfl h
    |false=>
     rw[hs] at h
     simp only[cond_false] at h ⊢
     have hx:pX σ.slots d=.one (.dat .bool x):=by
      unfold rQ at hg
      split at hg
      . cases hg
      . split at hg
        . split at hg
          . split at hg
            . rename_i hgl
              simp only[Zc,Prod.mk.injEq] at hg
              obtain⟨rfl,_,rfl⟩:=hg
              exact hgl
            . rename_i hgl
              simp only[Zc,Prod.mk.injEq] at hg
              obtain⟨_,_,rfl⟩:=hg
              rw[hgl] at hs;cases hs
            . cases hg
          . cases hg
        . cases hg
     have hset:∀b:Bool,x=b->(⟨tF σ.slots d (.one (.dat .bool b)),σ.objs⟩:St)=σ:=by
      rintro b rfl
      rw[aFE σ.slots d _ hx (.inl (by simp))]
     cases want with
     |true=>
      simp only[cond_true] at h
      by_cases hxt:x=true
      . rw[if_pos hxt] at h
        obtain⟨σ2,l,h1,h2⟩:=hone _ (hset true hxt) h
        subst hxt
        simp only[beq_self_eq_true,cond_true]
        rw[h1];exact h2
      . rw[if_neg hxt] at h
        have hxf:x=false:=by simpa using hxt
        have:=hno _ (hset false hxf) h
        subst hxf
        exact this
     |false=>
      simp only[cond_false] at h
      by_cases hxt:x=true
      . rw[if_pos hxt] at h
        have:=hno _ (hset true hxt) h
        subst hxt
        exact this
      . rw[if_neg hxt] at h
        have hxf:x=false:=by simpa using hxt
        obtain⟨σ2,l,h1,h2⟩:=hone _ (hset false hxf) h
        subst hxf
        simp only[beq_self_eq_true,cond_true]
        rw[h1];exact h2
section
variable {cx:Cx} {E:eI}
theorem aLV{σ:St}{a:Act}{w:World}(hI:vG cx σ a w)(dst:Option Tmp):vG cx (σ.apply dst ⟨.one .skip,[],none⟩) (a.put dst undef) w:=by
 obtain⟨hd,φ,ψ,Av,hO,hS⟩:=hI
 exact aKV (φ:=φ) (ψ:=ψ) (Av:=Av) dst hd rfl hO hS rfl (fun q hq=>by cases hq)
theorem aJv{ops:Array Oper}{base i:Nat}{σ σ':St}{l:iT}{a:Act}{w:World}{Q:Exit->Act->World->Prop}{K:Act->World->Prop}(hE:aS cx.P E)(hI:vG cx σ a w)(h:sR E ops.toList base i σ=some (σ',l))
 (hK:∀a' w',vG cx σ' a' w'->K a' w'):wpOp cx.P ops Q i K a w:=by
 unfold sR at h
 unfold wpOp
 rw[Array.getElem?_toList] at h
 cases ho:ops[i]? with
 |none=>rw[ho] at h;cases h
 |some o=>
  rw[ho] at h
  simp only[] at h ⊢
  have hone:∀{u:Option (St×iT)},u=some (σ',l)->u=(match(opM E (base+i*32) o σ.at).val (find σ.objs) [] with
   |some (e,l)=>some (σ.apply o.dst e,(⟨i,l,e.upd.map (·.1),e.kill.isSome⟩:iT))
   |none=>none)->o.wp cx.P a w K Q:=by
   rintro u h rfl
   split at h
   . rename_i e l' hv
     simp only[Zc,Prod.mk.injEq] at h
     obtain⟨rfl,_⟩:=h
     exact aOv hE hI (aCR _ hv) K Q hK
   . cases h
  cases hg:rQ ops.toList σ o with
  |none=>rw[hg] at h;cases h
  |some g=>
   rw[hg] at h
   cases g with
   |none=>
    have hw:Region.wanted o (yielded ops a.tmps)=true:=by
     unfold rQ at hg
     cases hgd:o.guard with
     |none=>simp[Region.wanted,hgd]
     |some g=>
      rw[hgd] at hg
      obtain⟨g,want⟩:=g
      simp only[] at hg
      split at hg
      . split at hg
        . split at hg<;>cases hg
        . cases hg
      . cases hg
    rw[if_pos hw]
    exact .inl (hone h rfl)
   |some g=>
    obtain⟨x,want,d⟩:=g
    simp only[] at h
    obtain⟨hd,φ,ψ,Av,hO,hS⟩:=hI
    have hgs:∃j p,o.guard=some (j,want)/\ops[j]?=some p/\p.dst=some d/\(pX σ.slots d=.one (.dat .bool x)\/pX σ.slots d=.one .skip):=by
     unfold rQ at hg
     split at hg
     . cases hg
     . rename_i j want' hgd
       split at hg
       . rename_i p hp
         split at hg
         . rename_i d' hd'
           split at hg
           . rename_i hgl
             simp only[Zc,Prod.mk.injEq] at hg
             obtain⟨rfl,rfl,rfl⟩:=hg
             exact⟨j,p,hgd,by rw[<-Array.getElem?_toList];exact hp,hd',.inl hgl⟩
           . rename_i hgl
             simp only[Zc,Prod.mk.injEq] at hg
             obtain⟨_,rfl,rfl⟩:=hg
             exact⟨j,p,hgd,by rw[<-Array.getElem?_toList];exact hp,hd',.inr hgl⟩
           . cases hg
         . cases hg
       . cases hg
    obtain⟨j,p,g1,g2,g3,g4⟩:=hgs
    have hslot:∀s,pX σ.slots d=s->s≠.one .undef->∃v,a.tmps[d]?=some v/\s.rep cx.P φ w Av (bH σ.objs) v:=by
     intro s hs hne
     cases hx:σ.slots[d]? with
     |none=>rw[aFx hx] at hs;exact absurd hs.symm hne
     |some s'=>
      rw[aGl hx] at hs
      subst hs
      have hlt:d<a.tmps.size:=by rw[hS.size];exact jD hx
      exact⟨_,Array.getElem?_eq_getElem hlt,hS.slots d s' _ hx (Array.getElem?_eq_getElem hlt)⟩
    have hno:σ'=σ.apply o.dst ⟨.one .skip,[],none⟩->K (a.put o.dst undef) w:=by
     rintro rfl
     exact hK _ _ (aLV ⟨hd,φ,ψ,Av,hO,hS⟩ o.dst)
    rcases g4 with g4|g4
    . obtain⟨v,hv1,hv2⟩:=hslot _ g4 (by simp)
      have hv:=aAV hv2
      subst hv
      have hy:yielded ops a.tmps j=some x:=by simp[yielded,g2,g3,hv1]
      have hw:Region.wanted o (yielded ops a.tmps)=(x==want):=by
       simp only[Region.wanted,g1,hy]
       cases x<;>cases want<;>rfl
      rw[g4] at h
      simp only[aAJ,cond_false] at h
      cases hxw:(x==want) with
      |true=>
       rw[hxw] at h
       rw[if_pos (by rw[hw,hxw])]
       simp only[cond_true] at h
       exact .inl (hone h rfl)
      |false=>
       rw[hxw] at h
       rw[if_neg (by rw[hw,hxw];simp)]
       simp only[cond_false,Zc,Prod.mk.injEq] at h
       exact hno h.1.symm
    . obtain⟨v,hv1,hv2⟩:=hslot _ g4 (by simp)
      have hv2:v=undef:=hv2
      subst hv2
      have hy:yielded ops a.tmps j=none:=by simp[yielded,g2,g3,hv1,undef]
      have hw:Region.wanted o (yielded ops a.tmps)=false:=by simp[Region.wanted,g1,hy]
      rw[if_neg (by rw[hw];simp)]
      rw[g4] at h
      simp only[aAJ,cond_true,Zc,Prod.mk.injEq] at h
      exact hno h.1.symm
theorem aK1{ops:Array Oper}{base:Nat}{Q:Exit->Act->World->Prop}{σ':St}{L':List iT}(hE:aS cx.P E)(hQ:∀a' w',vG cx σ' a' w'->Q .normal a' w'):(l:List Nat)->{σ:St}->{L:List iT}->{a:Act}->{w:World}->vG cx σ a w->aAc E ops.toList base l σ L=some (σ',L')->
 wpOps cx.P ops Q l a w
 |[],σ,L,a,w,hI,h=>by
  simp only[aAc,Zc,Prod.mk.injEq] at h
  obtain⟨rfl,_⟩:=h
  exact hQ a w hI
 |i::l,σ,L,a,w,hI,h=>by
  rw[wpOps_cons]
  simp only[aAc] at h
  split at h
  . rename_i σ1 l1 hs
    exact aJv hE hI hs fun a' w' hI'=>aK1 hE hQ l hI' h
  . cases h
theorem vG.drew{σ:St}{a:Act}{w:World}(hI:vG cx σ a w):vG cx σ a {w with drawn:=w.drawn+1}:=by
 obtain⟨hd,φ,ψ,Av,hO,hS⟩:=hI
 refine⟨hd,φ,ψ,Av,?_,?_⟩
 . have s:sS cx φ ψ Av σ.objs w φ ψ Av (fE σ.objs []) [] {w with drawn:=w.drawn+1}:=
    ⟨fun o=>rfl,fun _ _=>rfl,fun _ _ _=>rfl,fun _ hb=>hb,fun _ hb=>.inl hb,fun b hb _=>rfl,⟨Nat.le_refl _,rfl,rfl,rfl⟩,(fun o x hx=>by cases hx),(fun o x hx=>by cases hx),(fun o x o' x' hx=>by cases hx),(fun o x hx=>by cases hx),fun o x hx hn q hq hu=>by cases hu⟩
   exact hO.step s
 . have s:sS cx φ ψ Av σ.objs w φ ψ Av (fE σ.objs []) [] {w with drawn:=w.drawn+1}:=
    ⟨fun o=>rfl,fun _ _=>rfl,fun _ _ _=>rfl,fun _ hb=>hb,fun _ hb=>.inl hb,fun b hb _=>rfl,⟨Nat.le_refl _,rfl,rfl,rfl⟩,(fun o x hx=>by cases hx),(fun o x hx=>by cases hx),(fun o x o' x' hx=>by cases hx),(fun o x hx=>by cases hx),fun o x hx hn q hq hu=>by cases hu⟩
   exact kV.step hO s hS fun t x hx q hq hu=>by cases hu
end
end Go.Aw
