/-
 Conversions, lengths, parts, places, loads.
-/
import Derived.Test.YtdlkgkkfpfglbaaGreatAwL
namespace Go.Aw
open Go.IntKind (wrap)
open List (length)
section
variable {cx:Cx} {φ:Nat->dJ} {ψ:Nat->Nat->Prop} {w:World} {Av:Nat->Prop} {objs:List (Nat×Obj)} {E:eI} {e:uM}
theorem aII(ns:List Int):(acc:List UInt8)->(ns.foldl (fun(r:ByteArray) n=>r.push (UInt8.ofNat n.toNat)) ⟨acc.toArray⟩)=⟨(acc++kX ns).toArray⟩:=by
 induction ns with
 |nil=>intro acc;simp[kX]
 |cons n r ih=>
  intro acc
  simp only[List.foldl_cons]
  have:(⟨acc.toArray⟩:ByteArray).push (UInt8.ofNat n.toNat)=⟨(acc++[UInt8.ofNat n.toNat]).toArray⟩:=by
   apply ByteArray.ext;simp[ByteArray.push]
  rw[this,ih]
  simp[kX]
theorem aFH(l:List Int):(kX l).length=l.length:=by simp[kX]
theorem aJr{l:List Value}{off:Nat}:(xs:List Int)->(∀i (x:Int),xs[i]?=some x->fX l (off+i*1) 1=[.int .u8 x])->off+xs.length<=l.length->fX l off xs.length=xs.map (Value.int .u8):=by
 intro xs h hl
 apply List.ext_getElem?
 intro i
 rcases Nat.lt_or_ge i xs.length with hi|hi
 . rw[uE hi,List.getElem?_map,Zm hi]
   have h1:=h i _ (Zm hi)
   have h2:(fX l (off+i*1) 1)[0]?=l[off+i*1+0]?:=uE (by omega)
   rw[h1] at h2
   simp only[List.getElem?_cons_zero,Nat.mul_one,Nat.add_zero] at h2
   rw[<-h2];rfl
 . rw[List.getElem?_eq_none (by rw[oB hl];exact hi),List.getElem?_eq_none (by simpa using hi)]
theorem aKZ{P:Program}{Av:Nat->Prop}{t:TypeId}{xs:List Int}{cs:List Value}(h:vK w Av (.sl t (.int .u8)) xs cs):
 (Conv.bytesToString (cS false cs)).run P w=.ok (.string ⟨(kX xs).toArray⟩) w:=by
 rcases h with⟨rfl,h2⟩|⟨b,off,cap,sp,rfl,h2,h3,h4⟩
 . have h2':xs=[]:=h2
   subst h2'
   rfl
 . simp only[cS,Zj,if_false,List.getD_cons_zero]
   have key:(loadCells ⟨b,off,sp⟩ (length (α:=Int) xs)).run P w=.ok (List.map (Value.int .u8) xs).toArray w:=by
    rcases h4 with h4|⟨rfl,_,l,hl,h5,h6⟩
    . have h4':xs=[]:=h4
      subst h4'
      rfl
    . have h5':off+xs.length<=l.length:=by simpa [Ty.sz] using h5
      rw[aAH hl h5']
      have hb:=aJr (l:=l) (off:=off) xs (fun i x hx=>(h6 i x hx).1) h5'
      rw[hb]
   rw[run_bytesToString w _ _ cap xs key]
   rw[show ByteArray.empty=⟨([]:List UInt8).toArray⟩ from rfl,aII]
   simp
theorem aLB{ts td:TypeId}{s:SV}{x:Value}{n:Nat}(hE:aS cx.P E)(hO:iH cx φ ψ Av objs w)(hx:s.rep cx.P φ w Av (bH objs) x)
 (hn:∀t,¬(E.ty ts=some .str/\E.ty td=some (.sl t (.int .u8)))) (he:(aJX (E.ty ts) (E.ty td) s n).ev (find objs)=some e):xI cx φ w Av objs (convert ts td x) e:=by
 unfold aJX at he
 split at he
 . rename_i k1 k k2 a h1 h2
   obtain⟨rfl,ha⟩:=wJ hx
   cases fR (hE.ty _ _ h1);rename_i hu1
   cases fR (hE.ty _ _ h2);rename_i hu2
   exact iB he (by simp[convert,run_underlying hu1,run_underlying hu2,Conv.intToInt]) (qK _ _)
 . rename_i s h1 h2
   obtain⟨rfl,ha⟩:=aAA hx
   cases fR (hE.ty _ _ h1);rename_i hu1
   cases fR (hE.ty _ _ h2);rename_i hu2
   exact aB2 he (by simp[convert,run_underlying hu1,run_underlying hu2]) ha
 . rename_i t c h1 h2
   cases fR (hE.ty _ _ h1);rename_i hu1 he1
   cases fR (hE.ty _ _ h2);rename_i hu2
   cases fR he1;rename_i hu3
   obtain⟨l,h4,he⟩:=aG he
   obtain⟨d1,d2⟩:=uA h4
   obtain⟨cs,h6,rfl⟩:=hN hx d1 d2
   obtain⟨h8,h9⟩:=sQ hO _ c h4 h6
   rw[h9]
   have hr:=aKZ (P:=cx.P) h8
   refine aB2 he ?_ (by rw[aFH];exact aEn h8)
   rw[<-hr]
   simp only[Ty.isSt]
   obtain⟨a,cap,rfl,_⟩:=uB h8
   simp only[cS,Zj,if_false,List.getD_cons_zero]
   simp[convert,run_underlying hu1,run_underlying hu2,run_underlying hu3]
 . rename_i t s h1 h2
   exact absurd ⟨h1,h2⟩ (hn t)
 . cases he
theorem aMh{t ty:TypeId}{ts:List TypeId}{s:SV}{x:Value}(hE:aS cx.P E)(hO:iH cx φ ψ Av objs w)(hx:s.rep cx.P φ w Av (bH objs) x)(he:(aN3 (E.ty t) s).ev (find objs)=some e):
 xI cx φ w Av objs (Builtin.len_ (t::ts).toArray ty #[x]) e:=by
 have key:∀(u:TypeId) (a:Option Addr) (n c:Nat),cx.P.underlying t=some (.slice u)->(Builtin.len_ (t::ts).toArray ty #[.slice a n c]).run cx.P w=.ok (.int .i64 n) w:=by
  intro u a n c hu
  simp[Builtin.len_,run_underlying hu,goInt]
 unfold aN3 at he
 split at he
 . rename_i s h1
   obtain⟨rfl,ha⟩:=aAA hx
   cases fR (hE.ty _ _ h1);rename_i hu1
   refine iB he ?_ (wZ ha)
   have:(⟨s.toArray⟩:ByteArray).size=s.length:=rfl
   simp[Builtin.len_,run_underlying hu1,goInt,this]
 . rename_i t1 e1 u e2 xs h1
   cases fR (hE.ty _ _ h1);rename_i hu1 _
   obtain⟨cs,hc,rfl⟩:=hx
   obtain⟨a,cap,rfl,_⟩:=uB hc
   exact iB he (key _ a _ cap hu1) (wZ (aEn hc))
 . rename_i t1 e1 h1
   cases fR (hE.ty _ _ h1);rename_i hu1 _
   obtain⟨cs,hc,rfl⟩:=hx
   simp only[CT.cells] at hc
   subst hc
   exact iB he (key _ none 0 0 hu1) (wZ (Nat.zero_le _))
 . rename_i t1 e1 o h1
   cases fR (hE.ty _ _ h1);rename_i hu1 _
   obtain⟨cs,hc,rfl⟩:=hx
   simp only[M.ev] at he
   split at he
   . rename_i t2 e2 xs ho
     obtain⟨_,hr⟩:=hO.reps o _ ho
     obtain⟨rfl,_⟩:=hc
     obtain⟨a,cap,h2,_⟩:=uB (jO (Av:=fun _=>True) _ (fun _ _=>trivial) hr)
     simp only[List.cons.injEq,and_true] at h2
     simp only[cS,CT.isSt,Zj,if_false,List.getD_cons_zero,h2]
     exact iB he (key _ a _ cap hu1) (wZ (aA8 hr))
   . rename_i t2 e2 m xs ho
     obtain⟨_,⟨hm,h0⟩,_⟩:=hO.reps o _ ho
     obtain⟨rfl,_⟩:=hc
     rcases h0 with⟨b,off,cap,h2⟩|⟨h2,rfl⟩
     . simp only[cS,CT.isSt,Zj,if_false,List.getD_cons_zero,h2]
       exact iB he (key _ _ _ cap hu1) (wZ hm)
     . simp only[cS,CT.isSt,Zj,if_false,List.getD_cons_zero,h2]
       exact iB he (key _ _ _ 0 hu1) (wZ hm)
   . cases he
 . rename_i t1 e1 o lo hi h1
   cases fR (hE.ty _ _ h1);rename_i hu1 _
   obtain⟨cs,hc,rfl⟩:=hx
   simp only[M.ev] at he
   split at he
   . rename_i t2 e2 xs ho
     obtain⟨hee,hr⟩:=hO.reps o _ ho
     obtain⟨v,rfl,hs⟩:=hc
     rw[hee] at hs
     obtain⟨g1,g2,F',hr',_⟩:=aGi hr hs
     obtain⟨a,cap,h2,_⟩:=uB (jO (Av:=fun _=>True) _ (fun _ _=>trivial) hr')
     have hlen:=dropTake_len (α:=e2.D) g1 g2
     rw[hlen] at h2
     simp only[List.cons.injEq,and_true] at h2
     simp only[cS,CT.isSt,Zj,if_false,List.getD_cons_zero,h2]
     refine iB he (key _ a _ cap hu1) (wZ ?_)
     have:=aA8 hr'
     rw[hlen] at this;exact this
   . cases he
 . rename_i t1 e1 o p h1
   cases fR (hE.ty _ _ h1);rename_i hu1 _
   obtain⟨cs,hc,rfl⟩:=hx
   simp only[M.ev] at he
   split at he
   . rename_i t2 e2 xs ho
     obtain⟨t3,e3,ys,g1,F,g2,_⟩:=aHt hO ho hc
     rw[g1] at he
     simp only[] at he
     obtain⟨a,cap,h2,_⟩:=uB (jO (Av:=fun _=>True) _ (fun _ _=>trivial) g2)
     subst h2
     exact iB he (key _ a _ cap hu1) (wZ (aA8 g2))
   . cases he
 . cases he
theorem aLF{P:Program}{al:Nat->Prop}{mx:Bool}{f:Nat->Option Obj}{k:IntKind}:(ss:List SV)->(vs:List Value)->(a:Int)->inK k a->ss.length=vs.length->
 (∀(i:Nat) (s:SV) (v:Value),ss[i]?=some s->vs[i]?=some v->s.rep P φ w Av al v)->(aGb.go mx k a ss).ev f=some e->
 ∃b,inK k b/\(vs.foldlM (if mx then Builtin.max2 else Builtin.min2) (.int k a)).run P w=.ok (.int k b) w/\e=⟨.one (.dat (.int k) b),[],none⟩
 |[],vs,a,ha,hl,_,he=>by
  cases vs with
  |nil=>simp only[aGb.go,ok,M.ev,Zc] at he;exact⟨a,ha,by simp,he.symm⟩
  |cons v r=>cases hl
 |s::ss,vs,a,ha,hl,hr,he=>by
  cases vs with
  |nil=>cases hl
  |cons v r=>
   have h0:=hr 0 s v rfl rfl
   unfold aGb.go at he
   split at he
   . rename_i h;cases h
   . rename_i k' b rest h
     cases h
     obtain⟨rfl,hb⟩:=wJ h0
     rw[Zi] at he
     split at he
     . rename_i hk
       have hk:k=k':=Ze hk
       subst hk
       have hc:inK k (if(bif mx then decide (a<b) else decide (b<a))=true then b else a):=by split<;>assumption
       obtain⟨c,h1,h2,h3⟩:=aLF ss r _ hc (by simpa using hl) (fun i s v hs hv=>hr (i+1) s v (by simpa using hs) (by simpa using hv)) he
       refine⟨c,h1,?_,h3⟩
       simp only[List.foldlM_cons,Sem.run_bind]
       cases mx
       . simp only[Zj,if_false,cond_false,Za] at h2 ⊢
         simp only[Builtin.min2,Sem.run_pure,Result.andThen_ok]
         exact h2
       . simp only[if_true,cond_true,Za] at h2 ⊢
         simp only[Builtin.max2,Sem.run_pure,Result.andThen_ok]
         exact h2
     . cases he
   . cases he
theorem aJJ{al:Nat->Prop}{P:Program}{f:Nat->Option Obj}{ts:Array TypeId}{ty:TypeId}{mx:Bool}{ss:List SV}{vs:List Value}{ks:Nat->Prop}(hl:ss.length=vs.length)
 (hr:∀(i:Nat) (s:SV) (v:Value),ss[i]?=some s->vs[i]?=some v->s.rep P φ w Av al v) (he:(aGb mx ss).ev f=some e):
 zA P φ w Av al ks (if mx then Builtin.max_ ts ty vs.toArray else Builtin.min_ ts ty vs.toArray) e:=by
 cases ss with
 |nil=>cases he
 |cons s ss=>
  cases vs with
  |nil=>cases hl
  |cons v r=>
   have h0:=hr 0 s v rfl rfl
   unfold aGb at he
   split at he
   . rename_i h;cases h
   . rename_i k a rest h
     cases h
     obtain⟨rfl,ha⟩:=wJ h0
     obtain⟨b,h1,h2,h3⟩:=aLF ss r a ha (by simpa using hl) (fun i s v hs hv=>hr (i+1) s v (by simpa using hs) (by simpa using hv)) he
     subst h3
     refine⟨⟨.int k b,?_,aJT h1⟩,rfl,rfl,fun q hq=>by cases hq⟩
     cases mx
     . simpa [Builtin.min_] using h2
     . simpa [Builtin.max_] using h2
   . cases he
theorem aLo{t:TypeId}{k:Nat}{T U:Ty}{c:CT}{x:Value}(hE:aS cx.P E)(hT:E.ty t=some T)(hn:T.nth k=some U)(hf:c.fits T=true)(hx:(SV.one c).rep cx.P φ w Av (bH objs) x)
 (hk:∀q∈c.named,keys objs q) (he:(ok (c.fld k)).ev (find objs)=some e):xI cx φ w Av objs (Instr.field t x k) e:=by
 have hty:=hE.ty t T hT
 obtain⟨fs,f,hu,hfk,ho,hft⟩:=aIc hty hn
 have hst:T.isSt=true:=by cases T<;>first|rfl|cases hn
 have hcu:c≠.undef:=by rintro rfl;simp[CT.fits,hst] at hf
 have hcs:c≠.skip:=by rintro rfl;cases hf
 obtain⟨cs,hc,rfl⟩:=hN hx hcu hcs
 have hi:=yR hf hcu
 obtain⟨g1,g2,g3,g4⟩:=zD T c hn hf hc
 refine jA he ?_ (sW g2 g1) (fun q hq=>hk q (g3 q hq))
 rw[hi,hst]
 simp only[cS,if_true,Instr.field,Sem.run_bind,run_underlying hu,Result.andThen_ok,hfk,asAgg,Sem.run_pure]
 rw[ho]
 exact aEz hft g4
theorem aM9{t:TypeId}{s:List UInt8}{k:IntKind}{n:Int}(hE:aS cx.P E)(hT:E.ty t=some .str)(h0:0<=n)(h1:n<(s.length:Int))
 (he:(ok (.dat (.int .u8) ((List.getD (α:=UInt8) s n.toNat 0).toNat:Int))).ev (find objs)=some e):xI cx φ w Av objs (Instr.index t (.string ⟨s.toArray⟩) (.int k n)) e:=by
 cases fR (hE.ty t _ hT);rename_i hu
 have hlt:n.toNat<s.length:=by omega
 refine iB he ?_ ?_
 . have hg:(⟨s.toArray⟩:ByteArray)[n.toNat]?=some (s.getD n.toNat 0):=by
    have hsz:n.toNat<(⟨s.toArray⟩:ByteArray).size:=hlt
    rw[getElem?_pos (⟨s.toArray⟩:ByteArray) n.toNat hsz]
    rw[List.getD_eq_getElem?_getD,Zm hlt]
    rfl
   simp only[Instr.index,asIntOf,Sem.run_bind,Sem.run_pure,Result.andThen_ok,run_underlying hu,if_pos h0,hg]
 . generalize List.getD s n.toNat 0=b
   have:=b.toNat_lt
   constructor
   . show(0:Int)<=_;omega
   . show _<=(255:Int);omega
def aGk(x:Option Int)(y:Option Value):Prop:=match x,y with
 |none,none=>True
 |some n,some (.int _ m)=>n=m
 |_,_=>False
theorem yD{P:Program}{k:IntKind}{n:Int}{y:Nat}{code:BoundsCode}(h0:0<=n)(h1:n<=y):(Instr.sliceBound (.int k n) y code).run P w=.ok n.toNat w:=by
 simp[Instr.sliceBound,asIntOf,h0,h1]
def aNG(is:Bool)(len cap:Nat):Option Value->Sem Nat
 |some v=>Instr.sliceBound v cap (if is then .sliceAcap else .sliceAlen)
 |none=>pure len
def aO9(h:Nat):Option Value->Sem Nat
 |some v=>Instr.sliceBound v h .sliceB
 |none=>pure 0
theorem aKg(is:Bool)(len cap:Nat)(vl vh:Option Value):Instr.sliceBounds is len cap vl vh none=(aNG is len cap vh>>=fun h=>aO9 h vl>>=fun l=>pure (l,h,cap)):=by
 cases vl<;>cases vh<;>rfl
theorem zO{P:Program}{is:Bool}{len cap:Nat}{lo hi:Option Int}{vl vh:Option Value}(hlo:aGk lo vl)(hhi:aGk hi vh)(h1:0<=lo.getD 0)(h2:lo.getD 0<=hi.getD len)(h3:hi.getD len<=len)(hc:len<=cap):
 (Instr.sliceBounds is len cap vl vh none).run P w=.ok ((lo.getD 0).toNat,(hi.getD len).toNat,cap) w:=by
 have e1:(aNG is len cap vh).run P w=.ok (hi.getD len).toNat w:=by
  cases hi with
  |none=>
   cases vh with
   |none=>simp[aNG]
   |some v=>exact hhi.elim
  |some n=>
   cases vh with
   |none=>exact hhi.elim
   |some v=>
    cases v<;>first|exact hhi.elim|skip
    rename_i k m
    have:n=m:=hhi
    subst this
    simp only[Option.getD_some] at h2 h3 ⊢
    exact yD (by omega) (by omega)
 have e2:(aO9 (hi.getD len).toNat vl).run P w=.ok (lo.getD 0).toNat w:=by
  cases lo with
  |none=>
   cases vl with
   |none=>simp[aO9]
   |some v=>exact hlo.elim
  |some n=>
   cases vl with
   |none=>exact hlo.elim
   |some v=>
    cases v<;>first|exact hlo.elim|skip
    rename_i k m
    have:n=m:=hlo
    subst this
    simp only[Option.getD_some] at h1 h2 ⊢
    exact yD h1 (by omega)
 rw[aKg,Sem.run_bind,e1,Result.andThen_ok,Sem.run_bind,e2,Result.andThen_ok,Sem.run_pure]
theorem aHC{P:Program}{is:Bool}{len cap:Nat}{lo hi mx:Option Int}{m:Int}{vl vh vm:Option Value}(hlo:aGk lo vl)(hhi:aGk hi vh)(hmx:aGk mx vm)(hm:mx=some m)(hh:hi.isSome=true)
 (h1:0<=lo.getD 0) (h2:lo.getD 0<=hi.getD len) (h3:hi.getD len<=m) (h4:m<=cap):
 (Instr.sliceBounds is len cap vl vh vm).run P w=.ok ((lo.getD 0).toNat,(hi.getD len).toNat,m.toNat) w:=by
 subst hm
 cases vm with
 |none=>exact hmx.elim
 |some v=>
 cases v<;>first|exact hmx.elim|skip
 rename_i km m'
 have:m=m':=hmx
 subst this
 cases hi with
 |none=>cases hh
 |some h=>
 cases vh with
 |none=>exact hhi.elim
 |some v=>
 cases v<;>first|exact hhi.elim|skip
 rename_i kh h'
 have:h=h':=hhi
 subst this
 simp only[Option.getD_some] at *
 have e0:∀c,(Instr.sliceBound (.int km m) cap c).run P w=.ok m.toNat w:=fun c=>yD (by omega) h4
 have e1:∀c,(Instr.sliceBound (.int kh h) m.toNat c).run P w=.ok h.toNat w:=fun c=>yD (by omega) (by omega)
 simp only[Instr.sliceBounds,Sem.run_bind,e0,e1,Result.andThen_ok]
 cases lo with
 |none=>
  cases vl with
  |none=>simp
  |some v=>exact hlo.elim
 |some l=>
  cases vl with
  |none=>exact hlo.elim
  |some v=>
   cases v<;>first|exact hlo.elim|skip
   rename_i kl l'
   have:l=l':=hlo
   subst this
   simp only[Option.getD_some] at *
   have e2:∀c,(Instr.sliceBound (.int kl l) h.toNat c).run P w=.ok l.toNat w:=fun c=>yD h1 (by omega)
   simp[e2]
theorem aEZ(s:List UInt8)(l h:Nat):(⟨s.toArray⟩:ByteArray).extract l h=⟨(bE l h s).toArray⟩:=by
 apply ByteArray.ext
 rw[ByteArray.data_extract]
 apply Array.ext'
 simp only[Array.toList_extract,List.extract_eq_take_drop,bE]
theorem aAZ{P:Program}{t u:TypeId}{sz:Nat}{a:Option Addr}{len cap l h m:Nat}{vl vh vm:Option Value}(hu:P.underlying t=some (.slice u))(hs:(sizeOf u).run P w=.ok sz w)
 (hb:(Instr.sliceBounds true len cap vl vh vm).run P w=.ok (l,h,m) w):
 (Instr.sliceAt t (.slice a len cap) vl vh vm).run P w=.ok (.slice (if m=l then a else a.map (·.add (l*sz))) (h-l) (m-l)) w:=by
 simp only[Instr.sliceAt,Sem.run_bind,run_underlying hu,Result.andThen_ok,Instr.slice,hb,hs,Sem.run_pure]
theorem aBV(b off n:Nat):(⟨b,off,none⟩:Addr).add n=⟨b,off+n,none⟩:=by
 unfold Addr.add;split
 . rename_i h;subst h;rfl
 . rfl
theorem aKY{t:TypeId}{s:SV}{x:Value}{lo hi mx:Option Int}{vl vh vm:Option Value}(hE:aS cx.P E)(hO:iH cx φ ψ Av objs w)(hx:s.rep cx.P φ w Av (bH objs) x)(hk:∀q∈s.named,keys objs q)
 (hlo:aGk lo vl) (hhi:aGk hi vh) (hmx:aGk mx vm) (he:(aIO (E.ty t) s lo hi mx).ev (find objs)=some e):xI cx φ w Av objs (Instr.sliceAt t x vl vh vm) e:=by
 unfold aIO at he
 split at he
 . rename_i s h1
   obtain⟨rfl,ha⟩:=aAA hx
   cases fR (hE.ty _ _ h1);rename_i hu1
   cases mx with
   |some m=>cases he
   |none=>
    cases vm with
    |some v=>exact hmx.elim
    |none=>
    obtain⟨g1,he⟩:=gM he
    obtain⟨g2,he⟩:=gM he
    obtain⟨g3,he⟩:=gM he
    simp only[Za] at g1 g2 g3
    have hsz:(⟨s.toArray⟩:ByteArray).size=s.length:=rfl
    refine aB2 he ?_ ?_
    . simp only[Instr.sliceAt,Sem.run_bind,run_underlying hu1,Result.andThen_ok,Instr.slice,Option.isSome_none,Zj,if_false,hsz,zO (P:=cx.P) (is:=false) hlo hhi g1 g2 g3 (Nat.le_refl _),Sem.run_pure,aEZ]
    . unfold bE
      rw[Zr,Zs]
      exact Nat.le_trans (Nat.min_le_right _ _) (Nat.le_trans (Nat.sub_le _ _) ha)
 . rename_i t1 e1 c h1
   cases fR (hE.ty _ _ h1);rename_i hu1 he1
   have hsz:=xL he1 w
   split at he
   ·
    cases mx with
    |some m=>cases he
    |none=>
     cases vm with
     |some v=>exact hmx.elim
     |none=>
     obtain⟨g1,he⟩:=gM he
     obtain⟨g2,he⟩:=gM he
     simp only[Za] at g1 g2
     obtain⟨cs,hc,rfl⟩:=hx
     simp only[CT.cells] at hc
     subst hc
     have g2':hi.getD ((0:Nat):Int)=0:=g2
     have hb:=zO (P:=cx.P) (w:=w) (is:=true) (len:=0) (cap:=0) hlo hhi (by rw[g1];decide) (by rw[g1,g2'];decide) (by rw[g2'];decide) (Nat.le_refl _)
     refine jA he ?_ ⟨[.slice none 0 0],rfl,rfl⟩ (fun q hq=>by cases hq)
     simp only[cS,CT.isSt,Zj,if_false,List.getD_cons_zero]
     rw[aAZ hu1 hsz hb,g1,g2']
     rfl
   ·
    rename_i U zs
    obtain⟨xs,g0,hf⟩:=aG he
    clear he
    obtain⟨rfl,rfl⟩:=iJ g0
    cases mx with
    |some m=>cases hf
    |none=>
     cases vm with
     |some v=>exact hmx.elim
     |none=>
     obtain⟨g1,hf⟩:=gM hf
     obtain⟨g2,hf⟩:=gM hf
     obtain⟨g3,hf⟩:=gM hf
     simp only[Za] at g1 g2 g3
     obtain⟨cs,hc,rfl⟩:=hx
     have hc0:vK w Av (.sl t1 e1) xs cs:=hc
     obtain⟨a,cap,rfl,h4,h5,h6⟩:=uB hc0
     have hb:=zO (P:=cx.P) (w:=w) (is:=true) hlo hhi g1 g2 g3 h4
     simp only[cS,CT.isSt,Ty.isSt,Zj,if_false,List.getD_cons_zero]
     have hlen:=dropTake_len (α:=e1.D) (lo:=(lo.getD 0).toNat) (hi:=(hi.getD (length (α:=e1.D) xs)).toNat) (xs:=xs) (by omega) (by omega)
     refine jA hf (aAZ hu1 hsz hb) ⟨[_],?_,rfl⟩ (fun q hq=>by cases hq)
     generalize hL:(lo.getD 0).toNat=L at *
     generalize hH:(hi.getD (length (α:=e1.D) xs)).toNat=H at *
     have hLH:L<=H:=by omega
     have hHn:H<=length (α:=e1.D) xs:=by omega
     show vK w Av (.sl t1 e1) (bE (α:=e1.D) L H xs) _
     rcases hc0 with⟨h7,h8⟩|⟨b,off,cap',sp,h7,h8,h9,h10⟩
     . simp only[List.cons.injEq,Value.slice.injEq,and_true] at h7
       obtain⟨rfl,h11,rfl⟩:=h7
       have h8':xs=[]:=h8
       subst h8'
       have:H=0:=by simpa using hHn
       subst this
       have:L=0:=by omega
       subst this
       refine .inl ⟨by simp,by simp[bE]⟩
     . simp only[List.cons.injEq,Value.slice.injEq,and_true] at h7
       obtain⟨rfl,_,rfl⟩:=h7
       by_cases hm:cap=L
       . have hH0:H-L=0:=by omega
         rw[if_pos hm]
         have hnil:(bE (α:=e1.D) L H xs)=[]:=List.eq_nil_of_length_eq_zero (by rw[hlen];exact hH0)
         exact .inr ⟨b,off,cap-L,sp,by rw[hlen],by rw[hlen];omega,by rw[hlen];omega,.inl hnil⟩
       . rw[if_neg hm]
         rcases h10 with h10|⟨rfl,h11,l,h12,h13,h14⟩
         . have h10':xs=[]:=h10
           subst h10'
           have hL0:L=0:=by have:H<=0:=hHn;omega
           subst hL0
           exact .inr ⟨b,off,cap-0,sp,by rw[hlen];simp[Addr.add],by rw[hlen];omega,by rw[hlen];omega,.inl (by simp[bE])⟩
         . refine .inr ⟨b,off+L*e1.sz,cap-L,none,by rw[hlen];simp[aBV],by rw[hlen];omega,by rw[hlen];omega,?_⟩
           refine .inr ⟨rfl,h11,l,h12,?_,fun i y hy=>?_⟩
           . rw[hlen]
             have:(L+(H-L))*e1.sz<=length (α:=e1.D) xs*e1.sz:=Nat.mul_le_mul_right _ (by omega)
             rw[Nat.add_mul] at this
             omega
           . obtain⟨_,hy⟩:=zS hy
             rw[Nat.add_assoc,<-Nat.add_mul]
             exact h14 (L+i) y hy
   ·
    rename_i o
    simp only[M.ev] at he
    split at he
    . rename_i t2 e2 xs ho
      rw[Zi] at he
      split at he
      . rename_i hT
        have hT:Ty.sl t2 e2=Ty.sl t1 e1:=Ze hT
        cases hT
        obtain⟨hee,hr⟩:=hO.reps o _ ho
        obtain⟨cs,hc,rfl⟩:=hx
        obtain⟨rfl,_⟩:=hc
        simp only[cS,CT.isSt,Zj,if_false,List.getD_cons_zero]
        obtain⟨a,cap,h7,h8,_⟩:=uB (jO (Av:=fun _=>True) _ (fun _ _=>trivial) hr)
        simp only[List.cons.injEq,and_true] at h7
        have fin:∀L H m:Nat,L<=H->H<=length (α:=e1.D) xs->H<=m->m<=cap->
         (SV.one (.sub o L H)).rep cx.P φ w Av (bH objs) (.slice (if m=L then a else a.map (·.add (L*e1.sz))) (H-L) (m-L)):=by
         intro L H m hLH hHn hHm hmc
         refine⟨_,⟨_,rfl,?_⟩,rfl⟩
         rw[hee]
         rcases hr with⟨h9,h10,_⟩|⟨b,off,cap',c,EE,fr,Fs,h9,h10,h11,_⟩
         . simp only[List.cons.injEq,and_true] at h9
           have h10':xs=[]:=h10
           subst h10'
           rw[h9] at h7 ⊢
           simp only[Value.slice.injEq] at h7
           obtain⟨rfl,_,rfl⟩:=h7
           have:H=0:=by simpa using hHn
           subst this
           have:L=0:=by omega
           subst this
           have:m=0:=by omega
           subst this
           exact⟨rfl,rfl,by simp⟩
         . simp only[List.cons.injEq,and_true] at h9
           rw[h9] at h7 ⊢
           simp only[Value.slice.injEq] at h7
           obtain⟨rfl,_,rfl⟩:=h7
           refine⟨hLH,hHn,m-L,by omega,by omega,?_⟩
           by_cases hm:m=L
           . exact .inr ⟨by omega,by rw[if_pos hm]⟩
           . exact .inl (by rw[if_neg hm];simp[aBV])
        rw[h7]
        cases hmxe:mx with
        |none=>
         subst hmxe
         cases vm with
         |some v=>exact hmx.elim
         |none=>
         simp only[] at he
         obtain⟨g1,he⟩:=gM he
         obtain⟨g2,he⟩:=gM he
         obtain⟨g3,he⟩:=gM he
         simp only[Za] at g1 g2 g3
         have hb:=zO (P:=cx.P) (w:=w) (is:=true) hlo hhi g1 g2 g3 h8
         exact jA he (aAZ hu1 hsz hb) (fin _ _ _ (by omega) (by omega) (by omega) (Nat.le_refl _)) (fun q hq=>hk q hq)
        |some m=>
         subst hmxe
         simp only[] at he
         cases hi with
         |none=>cases he
         |some hh=>
         obtain⟨g1,he⟩:=gM he
         obtain⟨g2,he⟩:=gM he
         obtain⟨g3,he⟩:=gM he
         obtain⟨g4,he⟩:=gM he
         simp only[Za] at g1 g2 g3 g4
         have hb:=aHC (P:=cx.P) (w:=w) (is:=true) (cap:=cap) (len:=length (α:=e1.D) xs) hlo hhi hmx rfl rfl g1 g2 g3 (by omega)
         exact jA he (aAZ hu1 hsz hb) (fin _ _ _ (by omega) (by omega) (by omega) (by omega)) (fun q hq=>hk q hq)
      . cases he
    . cases he
   . cases he
 . cases he
end
end Go.Aw
