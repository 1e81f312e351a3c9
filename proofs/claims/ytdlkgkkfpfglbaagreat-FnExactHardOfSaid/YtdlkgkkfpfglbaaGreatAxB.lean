/-
 Regions, in each order that may be drawn.
-/
import Derived.Test.YtdlkgkkfpfglbaaGreatAxA
namespace Go.Aw
theorem aBR(m j:Nat):aBd m j=m.testBit j:=by
 have h:Nat.land (Nat.shiftRight m j) 1=(m>>>j)%2:=Nat.and_one_is_mod _
 unfold aBd
 rw[h,Nat.testBit_eq_decide_div_mod_eq,Nat.shiftRight_eq_div_pow]
 by_cases c:m/2^j%2=1
 . rw[c];rfl
 . rw[decide_eq_false c]
   have:Nat.beq (m/2^j%2) 1≠true:=fun h=>c (Nat.eq_of_beq_eq_true h)
   exact Bool.eq_false_iff.2 this
theorem aK4(a b j:Nat):aBd (Nat.lor a b) j=(aBd a j||aBd b j):=by
 rw[aBR,aBR,aBR];exact Nat.testBit_or a b j
theorem aL8(n j:Nat):aBd (Nat.shiftLeft 1 n) j=true↔j=n:=by
 rw[aBR,show Nat.shiftLeft 1 n=2^n from Nat.one_shiftLeft n,Nat.testBit_two_pow]
 simp only[Za]
 exact⟨fun h=>h.symm,fun h=>h.symm⟩
theorem aKj(j:Nat):aBd 0 j=false:=by rw[aBR];exact Nat.zero_testBit j
def aC9(acc:List Nat)(o:Oper):List Nat:=
 acc++[o.after.toList.foldl (init:=0) fun s e=>bif Region.binds .any e then Nat.lor (Nat.lor (Nat.shiftLeft 1 e.on) (acc.getD e.on 0)) s else s]
theorem aC3(xs:List Oper)(o:Oper):oT (xs++[o])=aC9 (oT xs) o:=by
 unfold oT
 rw[List.foldl_append];rfl
theorem aAt(xs:List Oper):(oT xs).length=xs.length:=by
 have:∀(ys:List Oper) (acc:List Nat),(ys.foldl aC9 acc).length=acc.length+ys.length:=by
  intro ys
  induction ys with
  |nil=>intro acc;simp
  |cons y ys ih=>intro acc;simp only[List.foldl_cons,ih,aC9,Zf,Zg,Zh];omega
 have h:=this xs []
 rw[Zh,Nat.zero_add] at h
 exact h
theorem aAD(xs:List Oper):(ys:List Oper)->{i:Nat}->i<xs.length->(oT (xs++ys)).getD i 0=(oT xs).getD i 0
 |[],i,h=>by simp
 |y::ys,i,h=>by
  have e:xs++y::ys=(xs++[y])++ys:=by simp
  rw[e,aAD (xs++[y]) ys (by simp;omega),aC3]
  unfold aC9
  rw[List.getD_eq_getElem?_getD,List.getD_eq_getElem?_getD,List.getElem?_append_left (by rw[aAt];exact h)]
theorem aHl{acc:List Nat}{j:Nat}:(l:List Edge)->(s:Nat)->aBd (l.foldl (fun s e=>bif Region.binds .any e then Nat.lor (Nat.lor (Nat.shiftLeft 1 e.on) (acc.getD e.on 0)) s else s) s) j=true->aBd s j=true\/∃e∈l,Region.binds .any e=true/\(j=e.on\/aBd (acc.getD e.on 0) j=true)
 |[],s,h=>.inl h
 |e::l,s,h=>by
  simp only[List.foldl_cons] at h
  rcases aHl l _ h with h|⟨e',h1,h2⟩
  . rw[Zi] at h
    split at h
    . rename_i hb
      rw[aK4,aK4,Bool.or_eq_true,Bool.or_eq_true,aL8] at h
      rcases h with(h|h)|h
      . exact .inr ⟨e,by simp,hb,.inl h⟩
      . exact .inr ⟨e,by simp,hb,.inr h⟩
      . exact .inl h
    . exact .inl h
  . exact .inr ⟨e',by simp[h1],h2⟩
theorem aGT{ops:List Oper}{i j:Nat}{o:Oper}(ho:ops[i]?=some o)(hb:∀e∈o.after.toList,Region.binds .any e=true->e.on<i)(h:aBd ((oT ops).getD i 0) j=true):
 ∃e∈o.after.toList,Region.binds .any e=true/\(j=e.on\/aBd ((oT ops).getD e.on 0) j=true):=by
 have hi:=jD ho
 have e1:ops=(ops.take i++[o])++ops.drop (i+1):=by
  rw[Zm hi] at ho
  simp only[Zc] at ho
  subst ho
  have:=List.take_append_drop i ops
  rw[Zn hi] at this
  simp
 have hl:(ops.take i).length=i:=by rw[Zr];omega
 have h1:(oT ops).getD i 0=(oT (ops.take i++[o])).getD i 0:=by
  conv=>lhs;rw[e1]
  exact aAD _ _ (by rw[Zf,hl];simp)
 have hlow:∀k,k<i->(oT ops).getD k 0=(oT (ops.take i)).getD k 0:=by
  intro k hk
  conv=>lhs;rw[e1,Zk]
  exact aAD _ _ (by rw[hl];exact hk)
 rw[h1,aC3] at h
 unfold aC9 at h
 rw[List.getD_eq_getElem?_getD,List.getElem?_append_right (by rw[aAt,hl];exact Nat.le_refl i),aAt,hl,Nat.sub_self] at h
 simp only[List.getElem?_cons_zero,Option.getD_some] at h
 rcases aHl _ _ h with h|⟨e,h2,h3,h4⟩
 . rw[aKj] at h;cases h
 . refine⟨e,h2,h3,h4.imp id fun h=>?_⟩
   rw[hlow e.on (hb e h2 h3)]
   exact h
section
variable {cx:Cx} {E:eI}
theorem aCY{ops:List Oper}(h:aCc ops=true){i:Nat}{o:Oper}(ho:ops[i]?=some o):∀e∈o.after.toList,Region.binds .any e=true->e.on<i:=by
 intro e he hb
 unfold aCc at h
 rw[Zu] at h
 have h1:=h (o,i) (List.mem_zipIdx_iff_getElem?.2 ho)
 simp only[] at h1
 rw[Zu] at h1
 have h2:=h1 e he
 rw[hb] at h2
 simpa using h2
theorem aEh{listed:Array Bool}{i j:Nat}(hi:i<listed.size):(listed.setIfInBounds i true).getD j false=true↔(j=i\/listed.getD j false=true):=by
 rw[Array.getD_eq_getD_getElem?,Array.getD_eq_getD_getElem?,Array.getElem?_setIfInBounds]
 by_cases h:i=j
 . subst h;simp[hi]
 . rw[if_neg h]
   exact⟨.inr,fun h'=>h'.resolve_left (fun e=>h e.symm)⟩
theorem aNy{ops:Array Oper}{base:Nat}{Q:Exit->Act->World->Prop}{σf:St}{logs:List iT}(hE:aS cx.P E)(hb:aCc ops.toList=true)
 (hord:∀x∈logs,∀y∈logs,x.i<y.i->aBd ((oT ops.toList).getD y.i 0) x.i=true\/Ap ops.toList x y) (hQ:∀a' w',vG cx σf a' w'->Q .normal a' w'):
 (fuel:Nat)->(listed:Array Bool)->(R:List Nat)->{σ σ':St}->{ls:List iT}->{a:Act}->{w:World}->R.length<=fuel->listed.size=ops.size->R.Pairwise (·< ·)->(∀j,j∈R↔(j<ops.size/\listed.getD j false=false))->
 (∀k,listed.getD k false=true->∀j,aBd ((oT ops.toList).getD k 0) j=true->listed.getD j false=true)->
 runs E ops.toList base R σ=some (σ',ls)->σ'.eqv σf->(∀x∈ls,x∈logs)->vG cx σ a w->wpAny cx.P .any ops Q fuel listed a w:=by
 intro fuel
 have hready:∀(listed:Array Bool) (R:List Nat),listed.size=ops.size->R.Pairwise (·< ·)->(∀j,j∈R↔(j<ops.size/\listed.getD j false=false))->Region.ready .any ops listed=[]->R=[]:=by
  intro listed R hsz hp hR hr
  cases R with
  |nil=>rfl
  |cons i R=>
   exfalso
   obtain⟨h1,h2⟩:=(hR i).1 (by simp)
   have hi:ops.toList[i]?=some ops[i]:=by rw[Array.getElem?_toList];exact Array.getElem?_eq_getElem h1
   have hmem:i∈Region.ready .any ops listed:=by
    unfold Region.ready
    rw[List.mem_filter]
    refine⟨by simpa using h1,?_⟩
    have hl1:listed.getD i true=false:=by
     rw[Array.getD_eq_getD_getElem?,Array.getElem?_eq_getElem (by omega)] at h2 ⊢
     exact h2
    rw[hl1,Array.getElem?_eq_getElem h1]
    simp only[Bool.not_false,Bool.true_and,Option.map_some,Option.getD_some]
    rw[<-Array.all_toList,Zu]
    intro e he
    cases hbe:Region.binds .any e with
    |false=>rfl
    |true=>
     have hlt:=aCY hb hi e he hbe
     have:¬e.on∈i::R:=by
      intro hm
      rw[List.pairwise_cons] at hp
      rcases List.mem_cons.1 hm with hm|hm
      . omega
      . have:=hp.1 _ hm;omega
     rw[hR] at this
     have:listed.getD e.on false=true:=by
      cases hx:listed.getD e.on false with
      |true=>rfl
      |false=>exact absurd ⟨by omega,hx⟩ this
     simp[this]
   rw[hr] at hmem;cases hmem
 have hend:∀(listed:Array Bool) (R:List Nat) (σ σ':St) (ls:List iT) (a:Act) (w:World),listed.size=ops.size->R.Pairwise (·< ·)->(∀j,j∈R↔(j<ops.size/\listed.getD j false=false))->
  runs E ops.toList base R σ=some (σ',ls)->σ'.eqv σf->vG cx σ a w->Region.ready .any ops listed=[]->Q .normal a w:=by
  intro listed R σ σ' ls a w hsz hp hR hrun heq hI hr
  have hnil:=hready listed R hsz hp hR hr
  subst hnil
  simp only[runs,Zc,Prod.mk.injEq] at hrun
  obtain⟨rfl,_⟩:=hrun
  exact hQ a w (hI.eqv heq)
 induction fuel with
 |zero=>
  intro listed R σ σ' ls a w hlen hsz hp hR hdown hrun heq hls hI
  have hnil:R=[]:=List.eq_nil_of_length_eq_zero (by omega)
  have hr:Region.ready .any ops listed=[]:=by
   cases hr:Region.ready .any ops listed with
   |nil=>rfl
   |cons i r=>
    exfalso
    have hm:i∈Region.ready .any ops listed:=by rw[hr];simp
    have:=(mem_ready (md:=.any)).1 hm
    unfold Region.ready at hm
    rw[List.mem_filter] at hm
    obtain⟨h1,h2⟩:=hm
    simp only[Zb,Bool.not_eq_true'] at h2
    have h1:i<ops.size:=by simpa using h1
    have:i∈R:=(hR i).2 ⟨h1,by
     have h3:=h2.1
     rw[Array.getD_eq_getD_getElem?,Array.getElem?_eq_getElem (by omega)] at h3 ⊢
     exact h3⟩
    rw[hnil] at this;cases this
  exact⟨hr,hend listed R σ σ' ls a w hsz hp hR hrun heq hI hr⟩
 |succ fuel ih=>
  intro listed R σ σ' ls a w hlen hsz hp hR hdown hrun heq hls hI
  refine⟨hend listed R σ σ' ls a w hsz hp hR hrun heq hI,fun i hi=>?_⟩
  unfold Region.ready at hi
  rw[List.mem_filter] at hi
  obtain⟨h1,h2⟩:=hi
  have h1:i<ops.size:=by simpa using h1
  simp only[Zb,Bool.not_eq_true'] at h2
  obtain⟨h2,h3⟩:=h2
  have hil:listed.getD i false=false:=by
   rw[Array.getD_eq_getD_getElem?,Array.getElem?_eq_getElem (by omega)] at h2 ⊢
   exact h2
  have hiR:i∈R:=(hR i).2 ⟨h1,hil⟩
  have hio:ops.toList[i]?=some ops[i]:=by rw[Array.getElem?_toList];exact Array.getElem?_eq_getElem h1
  rw[Array.getElem?_eq_getElem h1] at h3
  simp only[Option.map_some,Option.getD_some] at h3
  rw[<-Array.all_toList,Zu] at h3
  have hbef:∀j,aBd ((oT ops.toList).getD i 0) j=true->listed.getD j false=true:=by
   intro j hj
   obtain⟨e,e1,e2,e3⟩:=aGT hio (aCY hb hio) hj
   have hl:=h3 e e1
   rw[e2] at hl
   have hl:listed.getD e.on false=true:=by simpa using hl
   rcases e3 with e3|e3
   . rw[e3];exact hl
   . exact hdown e.on hl j e3
  obtain⟨A,B,rfl⟩:=List.append_of_mem hiR
  have hpa:=hp
  rw[List.pairwise_append] at hpa
  obtain⟨σ'',ls'',g1,g2,g3⟩:=aEH A hrun (fun x hx y hy hxA hyi=>by
   have hlt:x.i<y.i:=by rw[hyi];exact hpa.2.2 x.i hxA i (by simp)
   rcases hord x (hls x hx) y (hls y hy) hlt with h|h
   . rw[hyi] at h
     have hxl:=hbef x.i h
     have:=((hR x.i).1 (Zp.2 (.inl hxA))).2
     rw[this] at hxl;cases hxl
   . exact h)
  obtain⟨σ1,li,ls2,k1,k2,rfl⟩:=sF.1 g1
  refine aJv hE hI k1 fun a' w' hI'=>?_
  have hnd:(A++i::B).Nodup:=hp.imp (fun h=>by omega)
  have hiAB:i∉A++B:=by
   rw[List.nodup_append,List.nodup_cons] at hnd
   rw[Zp]
   rintro(h|h)
   . exact hnd.2.2 i h i (by simp) rfl
   . exact hnd.2.1.1 h
  refine ih (listed.setIfInBounds i true) (A++B) ?_ (by simpa using hsz) ?_ (fun j=>?_) (fun k hk j hj=>?_) k2 (g2.symm.trans heq) (fun x hx=>hls x ((g3 x).1 (by simp[hx]))) hI'
  . simp only[Zf,Zg] at hlen ⊢;omega
  . exact hp.sublist (List.Sublist.append_left (List.sublist_cons_self i B) A)
  . have hg:=aEh (listed:=listed) (i:=i) (j:=j) (by omega)
    have hm:j∈A++i::B↔(j=i\/j∈A++B):=by
     simp only[Zp,List.mem_cons]
     constructor
     . rintro(h|h|h)
       . exact .inr (.inl h)
       . exact .inl h
       . exact .inr (.inr h)
     . rintro(h|h|h)
       . exact .inr (.inl h)
       . exact .inl h
       . exact .inr (.inr h)
    constructor
    . intro hj
      obtain⟨h4,h5⟩:=(hR j).1 (hm.2 (.inr hj))
      refine⟨h4,?_⟩
      cases hx:(listed.setIfInBounds i true).getD j false with
      |false=>rfl
      |true=>
       rcases hg.1 hx with h6|h6
       . subst h6;exact absurd hj hiAB
       . rw[h5] at h6;cases h6
    . rintro⟨h4,h5⟩
      have hjl:listed.getD j false=false:=by
       cases hx:listed.getD j false with
       |false=>rfl
       |true=>rw[hg.2 (.inr hx)] at h5;cases h5
      rcases hm.1 ((hR j).2 ⟨h4,hjl⟩) with h6|h6
      . rw[hg.2 (.inl h6)] at h5;cases h5
      . exact h6
  . rw[aEh (by omega)] at hk ⊢
    rcases hk with rfl|hk
    . exact .inr (hbef j hj)
    . exact .inr (hdown k hk j hj)
theorem aKd{id:Nat}{ops:Array Oper}{draw:Bool}{Q:Exit->Act->World->Prop}{σ σ':St}{L':List iT}{a:Act}{w:World}(hE:aS cx.P E)(hm:cx.P.follows .mixedOrders=true)(hI:vG cx σ a w)
 (h:aAc E ops.toList (id*8192) (List.range' 0 ops.toList.length) σ []=some (σ',L')) (ho:(!draw||aHb ops.toList L')=true) (hQ:∀a' w',vG cx σ' a' w'->Q .normal a' w'):(Code.region id ops draw).wp cx.P Q a w:=by
 cases draw with
 |false=>
  refine wp_region ?_
  have:List.range ops.size=List.range' 0 ops.toList.length:=by rw[Array.length_toList,List.range_eq_range']
  rw[this]
  exact aK1 hE hQ _ hI h
 |true=>
  simp only[Bool.not_true,Bool.false_or] at ho
  unfold aHb at ho
  simp only[Zb] at ho
  obtain⟨hb,ho⟩:=ho
  obtain⟨ls,h1,h2⟩:=aFI _ h
  refine wp_region_any hm ?_
  refine aNy (base:=id*8192) (logs:=ls) hE hb (fun x hx y hy hlt=>?_) hQ ops.size _ (List.range' 0 ops.toList.length) (by simp) (by simp) ?_ (fun j=>?_) (fun k hk=>?_) h1 ⟨rfl,fun _=>rfl⟩ (fun x hx=>hx) hI.drew
  . rw[Zu] at ho
    have h3:=ho y ((h2 y).2 (.inl hy))
    rw[Zu] at h3
    have h4:=h3 x ((h2 x).2 (.inl hx))
    simp only[Bool.or_eq_true,Bool.not_eq_true'] at h4
    rcases h4 with(h4|h4)|h4
    . have:Nat.blt x.i y.i=true:=by rw[Nat.blt_eq];exact hlt
      rw[this] at h4;cases h4
    . exact .inl h4
    . refine .inr ?_
      split at h4
      . rename_i p q hp hq
        simp only[Zb] at h4
        exact⟨p,q,hp,hq,h4.1,h4.2⟩
      . cases h4
  . rw[<-List.range_eq_range'];exact List.pairwise_lt_range
  . rw[List.mem_range'_1]
    constructor
    . intro hj
      have:j<ops.size:=by have:=hj.2;simp only[Array.length_toList] at this;omega
      exact⟨this,by rw[Array.getD_eq_getD_getElem?,Array.getElem?_replicate,if_pos this];rfl⟩
    . rintro⟨hj,_⟩
      exact⟨Nat.zero_le _,by simp only[Array.length_toList];omega⟩
  . exfalso
    rw[Array.getD_eq_getD_getElem?,Array.getElem?_replicate] at hk
    split at hk<;>cases hk
end
end Go.Aw
