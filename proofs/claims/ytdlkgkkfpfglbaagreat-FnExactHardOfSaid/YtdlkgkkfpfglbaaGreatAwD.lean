/-
 Laws of reading data off memory.
-/
import Derived.Test.YtdlkgkkfpfglbaaGreatAwC
namespace Go.Aw
theorem vV{w w':World}{b:Nat}(h:w'.heap[b]?=w.heap[b]?):blk w' b=blk w b:=by unfold blk;rw[h]
theorem pV{w:World}{b:Nat}{c E fr}(h:w.heap[b]?=some (.cells c E fr)):blk w b=some c.toList:=by unfold blk;rw[h]
theorem oB{l:List Value}{off n:Nat}(h:off+n<=l.length):(fX l off n).length=n:=by
 unfold fX;rw[Zr,Zs];omega
theorem vJ{l:List Value}{off n o m:Nat}(h:o+m<=n):fX (fX l off n) o m=fX l (off+o) m:=by
 unfold fX
 rw[List.drop_take,List.take_take,List.drop_drop,Nat.min_eq_left (by omega)]
theorem rY{l:List Value}{off n m:Nat}:fX l off (n+m)=fX l off n++fX l (off+n) m:=by
 unfold fX
 rw[List.take_add,List.drop_drop]
theorem aGj(l:List Value):fX l 0 l.length=l:=by simp[fX]
theorem dT{i n k:Nat}(h:i<n):i*k+k<=n*k:=by
 calc i*k+k=(i+1)*k:=by rw[Nat.add_mul,Nat.one_mul]
  _<=n*k:=Nat.mul_le_mul_right _ h
theorem jD{α:Type}{l:List α}{i:Nat}{x:α}(h:l[i]?=some x):i<l.length:=by
 rcases Nat.lt_or_ge i l.length with h'|h'
 . exact h'
 . rw[List.getElem?_eq_none h'] at h;cases h
theorem tE{w:World}{Av:Nat->Prop}:(T:Ty)->{x:T.D}->{cs:List Value}->vK w Av T x cs->cs.length=T.sz
 |.int _,_,_,h=>by rw[h.1];rfl
 |.bool,_,_,h=>by rw[show _=_ from h];rfl
 |.str,_,_,h=>by rw[h.1];rfl
 |.op,_,_,h=>h.elim
 |.sl _ _,_,_,h=>by
  rcases h with⟨h,_⟩|⟨_,_,_,_,h,_⟩<;>rw[h]<;>rfl
 |.unit,_,_,h=>by rw[show _=_ from h];rfl
 |.pair a b,_,_,h=>by
  obtain⟨c1,c2,rfl,h1,h2⟩:=h
  rw[Zf,tE a h1,tE b h2];rfl
theorem nL{w:World}:(T:Ty)->{x:T.D}->{cs:List Value}->{F:Nat->Prop}->qW w T x cs F->cs.length=T.sz
 |.int _,_,_,_,h=>by rw[h.1];rfl
 |.bool,_,_,_,h=>by rw[h.1];rfl
 |.str,_,_,_,h=>by rw[h.1];rfl
 |.op,_,_,_,h=>h.elim
 |.sl _ _,_,_,_,h=>by
  rcases h with⟨h,_⟩|⟨_,_,_,_,_,_,_,h,_⟩<;>rw[h]<;>rfl
 |.unit,_,_,_,h=>by rw[h.1];rfl
 |.pair a b,_,_,_,h=>by
  obtain⟨c1,c2,f1,f2,rfl,_,_,h1,h2⟩:=h
  rw[Zf,nL a h1,nL b h2];rfl
theorem aDB{w:World}{F G:Nat->Prop}(hFG:∀q,F q↔G q):(T:Ty)->{x:T.D}->{cs:List Value}->qW w T x cs F->qW w T x cs G
 |.int _,_,_,h=>⟨h.1,h.2.1,fun q hq=>h.2.2 q ((hFG q).2 hq)⟩
 |.bool,_,_,h=>⟨h.1,fun q hq=>h.2 q ((hFG q).2 hq)⟩
 |.str,_,_,h=>⟨h.1,h.2.1,fun q hq=>h.2.2 q ((hFG q).2 hq)⟩
 |.op,_,_,h=>h.elim
 |.sl _ _,_,_,h=>by
  rcases h with⟨h1,h2,h3⟩|⟨b,off,cap,c,E,fr,Fs,h1,h2,h3,h4,h5,h6,h7,h8⟩
  . exact .inl ⟨h1,h2,fun q hq=>h3 q ((hFG q).2 hq)⟩
  . exact .inr ⟨b,off,cap,c,E,fr,Fs,h1,h2,h3,h4,h5,h6,fun q=>(hFG q).symm.trans (h7 q),h8⟩
 |.unit,_,_,h=>⟨h.1,fun q hq=>h.2 q ((hFG q).2 hq)⟩
 |.pair _ _,_,_,h=>by
  obtain⟨c1,c2,f1,f2,h1,h2,h3⟩:=h
  exact⟨c1,c2,f1,f2,h1,fun q=>(hFG q).symm.trans (h2 q),h3⟩
theorem lG{w w':World}{Av Av':Nat->Prop}(hA:∀b,Av b->Av' b)(hw:∀b,Av b->w'.heap[b]?=w.heap[b]?):
 (T:Ty)->{x:T.D}->{cs:List Value}->vK w Av T x cs->vK w' Av' T x cs
 |.int _,_,_,h=>h
 |.bool,_,_,h=>h
 |.str,_,_,h=>h
 |.op,_,_,h=>h
 |.sl _ e,_,_,h=>by
  rcases h with h|⟨b,off,cap,sp,hc,h1,h2,h3⟩
  . exact .inl h
  . refine .inr ⟨b,off,cap,sp,hc,h1,h2,?_⟩
    rcases h3 with h3|⟨hsp,hb,l,hl,h4,h5⟩
    . exact .inl h3
    . exact .inr ⟨hsp,hA b hb,l,(vV (hw b hb)).trans hl,h4,fun i y hy=>lG hA hw e (h5 i y hy)⟩
 |.unit,_,_,h=>h
 |.pair a b,_,_,h=>by
  obtain⟨c1,c2,hc,h1,h2⟩:=h
  exact⟨c1,c2,hc,lG hA hw a h1,lG hA hw b h2⟩
theorem sO{w w':World}:(T:Ty)->{x:T.D}->{cs:List Value}->{F:Nat->Prop}->(∀b,F b->w'.heap[b]?=w.heap[b]?)->qW w T x cs F->qW w' T x cs F
 |.int _,_,_,_,_,h=>h
 |.bool,_,_,_,_,h=>h
 |.str,_,_,_,_,h=>h
 |.op,_,_,_,_,h=>h
 |.sl _ e,_,_,_,hw,h=>by
  rcases h with h|⟨b,off,cap,c,E,fr,Fs,hc,hb,h1,h2,h3,h4,h5,h6,h7,h8⟩
  . exact .inl h
  . exact .inr ⟨b,off,cap,c,E,fr,Fs,hc,(hw b ((h5 b).2 (.inl rfl))).trans hb,h1,h2,h3,h4,h5,h6,h7,
     fun i y hy=>sO e (fun b' hb'=>hw b' ((h5 b').2 (.inr ⟨i,jD hy,hb'⟩))) (h8 i y hy)⟩
 |.unit,_,_,_,_,h=>h
 |.pair a b,_,_,_,hw,h=>by
  obtain⟨c1,c2,f1,f2,hc,h5,h6,h1,h2⟩:=h
  exact⟨c1,c2,f1,f2,hc,h5,h6,sO a (fun b hb=>hw b ((h5 b).2 (.inl hb))) h1,sO b (fun b hb=>hw b ((h5 b).2 (.inr hb))) h2⟩
theorem jO{w:World}{Av:Nat->Prop}:(T:Ty)->{x:T.D}->{cs:List Value}->{F:Nat->Prop}->(∀b,F b->Av b)->qW w T x cs F->vK w Av T x cs
 |.int _,_,_,_,_,h=>⟨h.1,h.2.1⟩
 |.bool,_,_,_,_,h=>h.1
 |.str,_,_,_,_,h=>⟨h.1,h.2.1⟩
 |.op,_,_,_,_,h=>h
 |.sl _ e,xs,_,_,hA,h=>by
  rcases h with h|⟨b,off,cap,c,E,fr,Fs,hc,hb,h1,h2,h3,h4,h5,h6,h7,h8⟩
  . exact .inl ⟨h.1,h.2.1⟩
  . refine .inr ⟨b,off,cap,none,hc,h1,Nat.le_trans h1 h2.1,.inr ⟨rfl,hA b ((h5 b).2 (.inl rfl)),c.toList,pV hb,?_,
     fun i y hy=>jO e (fun b' hb'=>hA b' ((h5 b').2 (.inr ⟨i,jD hy,hb'⟩))) (h8 i y hy)⟩⟩
    exact Nat.le_trans (Nat.add_le_add_left (Nat.mul_le_mul_right e.sz h1) off) (by rw[Array.length_toList (xs:=c)];exact h3)
 |.unit,_,_,_,_,h=>h.1
 |.pair a b,_,_,_,hA,h=>by
  obtain⟨c1,c2,f1,f2,hc,h5,h6,h1,h2⟩:=h
  exact⟨c1,c2,hc,jO a (fun b hb=>hA b ((h5 b).2 (.inl hb))) h1,jO b (fun b hb=>hA b ((h5 b).2 (.inr hb))) h2⟩
def qQ:Nat->Prop:=fun _=>False
theorem mP{w w':World}{Av:Nat->Prop}:(T:Ty)->T.flat=true->{x:T.D}->{cs:List Value}->vK w Av T x cs->qW w' T x cs qQ
 |.int _,_,_,_,h=>⟨h.1,h.2,fun _ h=>h⟩
 |.bool,_,_,_,h=>⟨h,fun _ h=>h⟩
 |.str,_,_,_,h=>⟨h.1,h.2,fun _ h=>h⟩
 |.op,_,_,_,h=>h
 |.sl _ _,hf,_,_,_=>by cases hf
 |.unit,_,_,_,h=>⟨h,fun _ h=>h⟩
 |.pair a b,hf,_,_,h=>by
  obtain⟨c1,c2,hc,h1,h2⟩:=h
  simp only[Ty.flat,Zb] at hf
  exact⟨c1,c2,qQ,qQ,hc,fun q=>by simp[qQ],fun q h=>h.elim,mP a hf.1 h1,mP b hf.2 h2⟩
theorem sD{w:World}:(T:Ty)->T.flat=true->{x:T.D}->{cs:List Value}->{F:Nat->Prop}->qW w T x cs F->∀q,¬F q
 |.int _,_,_,_,_,h=>h.2.2
 |.bool,_,_,_,_,h=>h.2
 |.str,_,_,_,_,h=>h.2.2
 |.op,hf,_,_,_,_=>by cases hf
 |.sl _ _,hf,_,_,_,_=>by cases hf
 |.unit,_,_,_,_,h=>h.2
 |.pair a b,hf,_,_,_,h=>by
  obtain⟨c1,c2,f1,f2,_,h5,h6,h1,h2⟩:=h
  simp only[Ty.flat,Zb] at hf
  intro q hq
  rcases(h5 q).1 hq with hq|hq
  . exact sD a hf.1 h1 q hq
  . exact sD b hf.2 h2 q hq
theorem aE7{w w':World}{Av Av':Nat->Prop}(T:Ty)(hf:T.flat=true){x:T.D}{cs:List Value}(h:vK w Av T x cs):vK w' Av' T x cs:=
 jO T (F:=qQ) (fun _ hb=>hb.elim) (mP (w':=w') T hf h)
def Ty.zcells:Ty->List Value
 |.int k=>[.int k 0]
 |.bool=>[.bool false]
 |.str=>[.string ⟨#[]⟩]
 |.op=>[.pointer none]
 |.sl _ _=>[.slice none 0 0]
 |.unit=>[]
 |.pair a b=>a.zcells++b.zcells
theorem aEe(k:IntKind):inK k 0:=by unfold inK;cases k<;>decide
theorem pL:(T:Ty)->T.zcells.length=T.sz
 |.int _=>rfl
 |.bool=>rfl
 |.str=>rfl
 |.op=>rfl
 |.sl _ _=>rfl
 |.unit=>rfl
 |.pair a b=>by simp[Ty.zcells,Ty.sz,pL a,pL b]
theorem aAM{w:World}:(T:Ty)->T.told=true->qW w T T.zero T.zcells qQ
 |.int k,_=>⟨rfl,aEe k,fun _ h=>h⟩
 |.bool,_=>⟨rfl,fun _ h=>h⟩
 |.str,_=>⟨rfl,by show 0<=maxLen;omega,fun _ h=>h⟩
 |.op,h=>by cases h
 |.sl _ _,_=>.inl ⟨rfl,rfl,fun _ h=>h⟩
 |.unit,_=>⟨rfl,fun _ h=>h⟩
 |.pair a b,h=>by
  simp only[Ty.told,Zb] at h
  exact⟨a.zcells,b.zcells,qQ,qQ,rfl,fun q=>by simp[qQ],fun q h=>h.elim,aAM a h.1,aAM b h.2⟩
theorem aFV:(T:Ty)->T.flat=true->T.told=true
 |.int _,_=>rfl
 |.bool,_=>rfl
 |.str,_=>rfl
 |.op,h=>h
 |.sl _ _,h=>by cases h
 |.unit,_=>rfl
 |.pair a b,h=>by
  simp only[Ty.flat,Zb] at h
  simp[Ty.told,aFV a h.1,aFV b h.2]
theorem aAF{α:Type}(l:List (Nat×α))(o:Nat)(a:α)(o':Nat):find (put l o a) o'=if o=o' then some a else find l o':=by
 induction l with
 |nil=>
  simp only[put,find,Zi,Nat.beq_eq]
 |cons p r ih=>
  obtain⟨i,b⟩:=p
  simp only[put,Zi,Nat.beq_eq]
  by_cases h:i=o
  . subst h
    simp only[if_true,find,Zi,Nat.beq_eq]
    by_cases h':i=o'<;>simp[h']
  . simp only[h,if_false,find,Zi,Nat.beq_eq,ih]
    by_cases h':i=o'
    . subst h';simp;intro h'';exact absurd h''.symm h
    . simp[h']
theorem mU(l:List (Nat×Obj))(u:List (Nat×Obj))(hu:(u.map (·.1)).Nodup)(o:Nat):
 find (fE l u) o=(find u o).or (find l o):=by
 induction u generalizing l with
 |nil=>simp[fE,find]
 |cons p r ih=>
  obtain⟨i,a⟩:=p
  simp only[List.map_cons,List.nodup_cons] at hu
  simp only[fE,ih _ hu.2,aAF,find,Zi,Nat.beq_eq]
  by_cases h:i=o
  . subst h
    have:find r i=none:=by
     clear ih
     have hn:=hu.1
     clear hu
     induction r with
     |nil=>rfl
     |cons q r ih=>
      obtain⟨j,c⟩:=q
      simp only[List.map_cons,List.mem_cons,not_or] at hn
      simp only[find,Zi,Nat.beq_eq,if_neg (Ne.symm hn.1)]
      exact ih hn.2
    simp[this]
  . simp[h]
theorem iW{α:Type}{l:List (Nat×α)}{o:Nat}{a:α}(h:find l o=some a):(o,a)∈l:=by
 induction l with
 |nil=>cases h
 |cons p r ih=>
  obtain⟨i,b⟩:=p
  simp only[find,Zi,Nat.beq_eq] at h
  by_cases h':i=o
  . rw[if_pos h'] at h;cases h;subst h';simp
  . rw[if_neg h'] at h;exact Zo _ (ih h)
theorem mH{α:Type}{l:List (Nat×α)}(hn:(l.map (·.1)).Nodup){o:Nat}{a:α}(h:(o,a)∈l):find l o=some a:=by
 induction l with
 |nil=>cases h
 |cons p r ih=>
  obtain⟨i,b⟩:=p
  simp only[List.map_cons,List.nodup_cons] at hn
  simp only[find,Zi,Nat.beq_eq]
  cases h with
  |head=>simp
  |tail _ h=>
   have:i≠o:=fun e=>hn.1 (e▸List.mem_map.2 ⟨_,h,rfl⟩)
   rw[if_neg this];exact ih hn.2 h
theorem aCp{α:Type}{l:List (Nat×α)}{o:Nat}(h:o∉l.map (·.1)):find l o=none:=by
 cases hf:find l o with
 |none=>rfl
 |some a=>exact absurd (List.mem_map.2 ⟨_,iW hf,rfl⟩) h
theorem aHq{l:List SV}{d t:Nat}{s:SV}:(tF l d s)[t]?=if d=t then(if d<l.length then some s else none) else l[t]?:=by
 induction l generalizing d t with
 |nil=>simp[tF]
 |cons a r ih=>
  cases d with
  |zero=>cases t<;>simp[tF]
  |succ d=>cases t with
   |zero=>simp[tF]
   |succ t=>simp[tF,ih]
theorem aHn{l:List SV}{d:Nat}{s:SV}:(tF l d s).length=l.length:=by
 induction l generalizing d with
 |nil=>rfl
 |cons a r ih=>cases d<;>simp[tF,ih]
theorem aGl{l:List SV}{t:Nat}{s:SV}(h:l[t]?=some s):pX l t=s:=by
 induction l generalizing t with
 |nil=>simp at h
 |cons a r ih=>cases t with
  |zero=>simp at h;exact h
  |succ t=>simp at h;exact ih h
theorem aFx{l:List SV}{t:Nat}(h:l[t]?=none):pX l t=.one .undef:=by
 induction l generalizing t with
 |nil=>rfl
 |cons a r ih=>cases t with
  |zero=>simp at h
  |succ t=>simp at h;exact ih (by simpa using h)
end Go.Aw
