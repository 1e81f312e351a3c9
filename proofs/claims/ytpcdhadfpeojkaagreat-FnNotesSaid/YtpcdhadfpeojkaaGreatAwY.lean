/-
 One operation.
-/
import Derived.Test.YtpcdhadfpeojkaaGreatAwX
namespace Go.Aw
open Go.IntKind (wrap)
open List (length)
section
variable {cx : Cx} {w : World} {σ : St} {E : Env} {e : Eff} {a : Act}
def Wp (cx : Cx) (σ : St) (o : Oper) (a : Act) (w : World) (e : Eff) : Prop :=
 ∀ (next : Act -> World -> Prop) (Q : Exit -> Act -> World -> Prop), (∀ a' w', Inv cx (σ.apply o.dst e) a' w' -> next a' w') -> o.wp cx.P a w next Q
theorem does_wp {o : Oper} {r : Sem Value} (h : Does cx σ a.tmps r w e) (hd : a.defers = []) (hx : execOp a.eval o = (do pure (.value (<- r)))) : Wp cx σ o a w e := by
 intro next Q hn
 obtain ⟨v, w', h1, h2⟩ := h.fin hd o.dst
 unfold Oper.wp
 rw [hx]
 simp only [Sem.run_bind, h1, Result.andThen_ok, Sem.run_pure, Oper.upon_value]
 exact hn _ _ h2
theorem skip_wp {o : Oper} {r : Sem Unit} (h : Does cx σ a.tmps (do r; pure undef) w e) (hd : a.defers = []) (hx : execOp a.eval o = (do r; pure .skip)) : Wp cx σ o a w e := by
 intro next Q hn
 obtain ⟨v, w', h1, h2⟩ := h.fin hd o.dst
 unfold Oper.wp
 rw [hx]
 simp only [Sem.run_bind, Sem.run_pure] at h1
 cases hr : r.run cx.P w with
 | halt hh w1 => rw [hr] at h1; cases h1
 | ok u w1 =>
  rw [hr] at h1
  simp only [Result.andThen_ok, Result.ok.injEq] at h1
  obtain ⟨rfl, rfl⟩ := h1
  simp only [Sem.run_bind, hr, Result.andThen_ok, Sem.run_pure, Oper.upon_skip]
  exact hn _ _ h2
theorem enter_wp {o : Oper} {f : FuncId} {args : Array Value} (h : Calls cx.P f args w fun d w' => ∃ v, d = .returned v /\ Ends cx σ a.tmps e v w') (hd : a.defers = []) (hx : (execOp a.eval o).run cx.P w = .ok (.enter f args) w) : Wp cx σ o a w e := by
 intro next Q hn
 unfold Oper.wp
 rw [hx, Oper.upon_enter]
 refine Calls.mono h fun d w' hdv => ?_
 obtain ⟨v, rfl, hv⟩ := hdv
 exact hn _ _ (hv.fin hd o.dst)
theorem ones_rep {φ : Nat -> Info} {Av : Nat -> Prop} (hS : InvS cx.P φ Av σ a.tmps w) : (l : List Operand) -> {cs : List CT} -> ones (l.map σ.at) = some cs -> AllRep cx φ w Av σ.objs cs (l.map a.eval) /\ ∀ c ∈ cs, c.isDef = true
 | [], cs, h => by
  simp only [List.map_nil, ones, Zc] at h
  subst h
  exact ⟨rfl, (fun c hc => by cases hc)⟩
 | x :: l, cs, h => by
  simp only [List.map_cons] at h
  have hx := at_rep hS x
  generalize σ.at x = s at h hx
  cases s with
  | tup c => cases h
  | one c =>
   simp only [ones, Zi] at h
   split at h
   . rename_i hd
     split at h
     . rename_i l' hl
       simp only [Zc] at h
       subst h
       obtain ⟨h1, h2⟩ := ones_rep hS l hl
       refine ⟨⟨a.eval x, _, rfl, hx.1, hx.2, h1⟩, fun c' hc' => ?_⟩
       rcases List.mem_cons.1 hc' with rfl | hc'
       . exact hd
       . exact h2 c' hc'
     . cases h
   . cases h
theorem caps_list {φ : Nat -> Info} {Av : Nat -> Prop} : (cs : List CT) -> {vs : List Value} -> AllRep cx φ w Av σ.objs cs vs -> (∀ c ∈ cs, c.isDef = true) -> (listCT cs).caps cx.P φ w Av (alive σ.objs) vs /\ ∀ q ∈ (listCT cs).named, keys σ.objs q
 | [], vs, h, _ => by
  have h' : vs = [] := h
  exact ⟨h', (fun q hq => by cases hq)⟩
 | c :: cs, vs, h, hd => by
  obtain ⟨v, r, rfl, h1, h2, h3⟩ := h
  obtain ⟨d1, d2⟩ := isDef_ne (hd c (by simp))
  obtain ⟨g1, g2⟩ := caps_list cs h3 (fun c' hc' => hd c' (by simp [hc']))
  refine ⟨⟨v, r, rfl, val_cells h1 d1 d2, g1⟩, fun q hq => ?_⟩
  simp only [listCT, CT.named, Zp] at hq
  exact hq.elim (h2 q) (g2 q)
theorem caps_rep {φ : Nat -> Info} {Av : Nat -> Prop} : (c : CT) -> {vs : List Value} -> c.caps cx.P φ w Av (alive σ.objs) vs -> (∀ q ∈ c.named, keys σ.objs q) -> AllRep cx φ w Av σ.objs (capsOf c) vs
 | .pair c d, vs, h, hk => by
  obtain ⟨v, r, rfl, ⟨cs, h1, h2⟩, h3⟩ := h
  refine ⟨v, r, rfl, ?_, fun q hq => hk q (by simp only [CT.named, Zp]; exact .inl hq), caps_rep d h3 fun q hq => hk q (by simp only [CT.named, Zp]; exact .inr hq)⟩
  cases c with
  | undef => trivial
  | skip => exact h1.elim
  | _ => exact ⟨cs, h1, h2⟩
 | .undef, vs, h, hk => h
 | .skip, vs, h, hk => h
 | .nil, vs, h, hk => h
 | .unit, vs, h, hk => h
 | .dat _ _, vs, h, hk => h
 | .arr _, vs, h, hk => h
 | .sub _ _ _, vs, h, hk => h
 | .bor _ _, vs, h, hk => h
 | .bptr _ _ _, vs, h, hk => h
 | .eptr _ _ _, vs, h, hk => h
 | .dptr _ _, vs, h, hk => h
 | .clo _ _, vs, h, hk => h
 | .fn _ _ _ _, vs, h, hk => h
theorem AllRep.app {φ : Nat -> Info} {Av : Nat -> Prop} {ds : List CT} {us : List Value} : (cs : List CT) -> {vs : List Value} -> AllRep cx φ w Av σ.objs cs vs -> AllRep cx φ w Av σ.objs ds us -> AllRep cx φ w Av σ.objs (cs ++ ds) (vs ++ us)
 | [], vs, h, h' => by
  have : vs = [] := h
  subst this; exact h'
 | c :: cs, vs, h, h' => by
  obtain ⟨v, r, rfl, h1, h2, h3⟩ := h
  exact ⟨v, r ++ us, rfl, h1, h2, AllRep.app cs h3 h'⟩
theorem comp_rep {φ : Nat -> Info} {Av al : Nat -> Prop} : (c : CT) -> {k : Nat} -> {d : CT} -> {vs : List Value} -> c.comp k = some d -> c.vals cx.P φ w Av al vs -> ∃ v, vs[k]? = some v /\ d.val cx.P φ w Av al v /\ ∀ q ∈ d.named, q ∈ c.named
 | .pair a b, k, d, vs, h, hv => by
  obtain ⟨v, r, rfl, h1, h2⟩ := hv
  cases k with
  | zero =>
   simp only [CT.comp, Zc] at h; subst h
   exact ⟨v, rfl, h1, fun q hq => by simp only [CT.named, Zp]; exact .inl hq⟩
  | succ k =>
   simp only [CT.comp] at h
   obtain ⟨u, g1, g2, g3⟩ := comp_rep b h h2
   exact ⟨u, by simpa using g1, g2, fun q hq => by simp only [CT.named, Zp]; exact .inr (g3 q hq)⟩
 | .unit, k, d, vs, h, hv => by cases h
 | .undef, _, _, _, h, _ => by cases h
 | .skip, _, _, _, h, _ => by cases h
 | .nil, _, _, _, h, _ => by cases h
 | .dat _ _, _, _, _, h, _ => by cases h
 | .arr _, _, _, _, h, _ => by cases h
 | .sub _ _ _, _, _, _, h, _ => by cases h
 | .bor _ _, _, _, _, h, _ => by cases h
 | .bptr _ _ _, _, _, _, h, _ => by cases h
 | .eptr _ _ _, _, _, _, h, _ => by cases h
 | .dptr _ _, _, _, _, h, _ => by cases h
 | .clo _ _, _, _, _, h, _ => by cases h
 | .fn _ _ _ _, _, _, _, h, _ => by cases h
theorem bnd_ok {φ : Nat -> Info} {Av : Nat -> Prop} (hS : InvS cx.P φ Av σ a.tmps w) (x : Option Operand) {y : Option Int} (h : bnd σ.at x = some y) : bndV y (x.map a.eval) := by
 cases x with
 | none => simp only [bnd, Zc] at h; subst h; trivial
 | some x =>
  have hx := (at_rep hS x).1
  simp only [bnd] at h
  split at h
  . rename_i k n hs
    simp only [Zc] at h; subst h
    rw [hs] at hx
    obtain ⟨hv, _⟩ := of_int hx
    simp only [Option.map_some, hv]
    rfl
  . cases h
def callOp (E : Env) (n : Nat) (c : Call) (σ : Operand -> SV) : M Eff :=
 match c.callee with
  | .builtin .len => match c.args.toList, c.argTypes.toList with
   | [x], t :: _ => lenM (E.ty t) (σ x)
   | _, _ => .fail
  | .builtin .append => match c.args.toList, c.argTypes.toList with
   | [x, y], [t, u] => match E.ty u with
    | some (.int _) => appendMakeM (E.ty t) (E.ty u) (σ x) (σ y) n
    | _ => appendM (E.ty t) (E.ty u) (σ x) (σ y) n
   | _, _ => .fail
  | .builtin .cap => match c.args.toList, c.argTypes.toList with
   | [x], t :: _ => match E.ty t, σ x with
    | some (.sl _ _), .one .nil => ok (.dat (.int .i64) (0 : Int))
    | _, _ => .fail
   | _, _ => .fail
  | .builtin .min => minM false (c.args.toList.map σ)
  | .builtin .max => minM true (c.args.toList.map σ)
  | .value (.func f) => match ones (c.args.toList.map σ) with
   | some cs => match wiredOf E f (cloArg cs) with
    | some e => callW E.fs e cs n
    | none => match E.fs f with
     | some s => callM E.fs s cs n
     | none => .fail
   | none => .fail
  | .value (.tmp t) => match σ (.tmp t), ones (c.args.toList.map σ) with
   | .one (.clo f caps), some cs => match E.fw f f with
    | some e => callW E.fs e (cs ++ capsOf caps) n
    | none => match E.fs f with
     | some s => callM E.fs s (cs ++ capsOf caps) n
     | none => .fail
   | .one (.fn A B pre g), some [c] => (toDat A c).bind fun x => .chk (pre x) (ok (.dat B (g x)))
   | _, _ => .fail
  | _ => .fail
theorem arr_of_toList {α : Type} {a : Array α} {l : List α} (h : a.toList = l) : a = l.toArray := by rw [<- h]
theorem getD_map (l : List Operand) (f : Operand -> SV) (g : Operand -> Value) (i : Nat) (s : SV) (v : Value) (h1 : (l.map f)[i]? = some s) (h2 : (l.map g)[i]? = some v) : ∃ x, f x = s /\ g x = v := by
 rw [List.getElem?_map] at h1 h2
 cases hx : l[i]? with
 | none => rw [hx] at h1; cases h1
 | some x =>
  rw [hx] at h1 h2
  simp only [Option.map_some, Zc] at h1 h2
  exact ⟨x, h1, h2⟩
theorem call_ok {o : Oper} {n : Nat} {c : Call} (hE : EnvOk cx.P E) (hI : Inv cx σ a w) (hop : o.op = .call c) (he : (callOp E n c σ.at).ev (find σ.objs) = some e) : Wp cx σ o a w e := by
 obtain ⟨hd, φ, ψ, Av, hO, hS⟩ := hI
 have hat := at_rep hS
 have give : ∀ {r : Sem Value}, GiveE cx φ w Av σ.objs r e -> execOp a.eval o = (do pure (.value (<- r))) -> Wp cx σ o a w e := fun h hx => does_wp (h.does hO hS) hd hx
 unfold callOp at he
 split at he
 . rename_i hcal
   split at he
   . rename_i x t ts hx ht
     have hx := arr_of_toList hx
     have ht := arr_of_toList ht
     refine give (r := Builtin.len_ (t :: ts).toArray o.type #[a.eval x]) (lenM_ok hE hO (hat x).1 he) ?_
     simp only [execOp, hop, resolve, hcal, hx, ht]
     simp [invoke, builtin]
   . cases he
 . rename_i hcal
   split at he
   . rename_i x y t u hx ht
     have hx := arr_of_toList hx
     have ht := arr_of_toList ht
     have hex : execOp a.eval o = (do pure (.value (<- Builtin.append_ #[t, u] o.type #[a.eval x, a.eval y]))) := by
      simp only [execOp, hop, resolve, hcal, hx, ht]
      simp [invoke, builtin]
     split at he
     . exact does_wp (appendMakeM_ok hE hO hS (hat x).1 (hat y).1 he) hd hex
     . exact does_wp (appendM_ok hE hO hS (hat x).1 (hat y).1 he) hd hex
   . cases he
 . rename_i hcal
   split at he
   . rename_i x t ts hx ht
     have hx := arr_of_toList hx
     have ht := arr_of_toList ht
     split at he
     . rename_i t1 T hT hnil
       cases ty_desc (hE.ty _ _ hT); rename_i hu hte
       have hv := (hat x).1
       rw [hnil] at hv
       obtain ⟨cs, rfl, hv⟩ := hv
       have he' : (⟨.one (.dat (.int .i64) (0 : Int)), [], none⟩ : Eff) = e := by simpa [ok, M.ev] using he
       subst he'
       have hv0 : a.eval x = .slice none 0 0 := hv
       refine give (r := Builtin.cap_ (t :: ts).toArray o.type #[a.eval x]) ⟨⟨.int .i64 0, ?_, ⟨_, ⟨rfl, inK_zero _⟩, rfl⟩⟩, rfl, rfl, fun q hq => by cases hq⟩ ?_
       . rw [hv0]
         simp [Builtin.cap_, run_underlying hu, goInt]
       . simp only [execOp, hop, resolve, hcal, hx, ht]
         simp [invoke, builtin]
     . cases he
   . cases he
 . rename_i hcal
   refine give (r := Builtin.min_ c.argTypes o.type (c.args.toList.map a.eval).toArray) ?_ ?_
   . have := minM_ok (P := cx.P) (w := w) (φ := φ) (Av := Av) (al := alive σ.objs) (ks := keys σ.objs) (ts := c.argTypes) (ty := o.type) (mx := false) (ss := c.args.toList.map σ.at) (vs := c.args.toList.map a.eval) (by simp) (fun i s v h1 h2 => by
      obtain ⟨x, rfl, rfl⟩ := getD_map _ _ _ i s v h1 h2
      exact (hat x).1) he
     simpa using this
   . have hm : c.args.map a.eval = (c.args.toList.map a.eval).toArray := arr_of_toList (by simp)
     simp only [execOp, hop, resolve, hcal, hm]
     rfl
 . rename_i hcal
   refine give (r := Builtin.max_ c.argTypes o.type (c.args.toList.map a.eval).toArray) ?_ ?_
   . have := minM_ok (P := cx.P) (w := w) (φ := φ) (Av := Av) (al := alive σ.objs) (ks := keys σ.objs) (ts := c.argTypes) (ty := o.type) (mx := true) (ss := c.args.toList.map σ.at) (vs := c.args.toList.map a.eval) (by simp) (fun i s v h1 h2 => by
      obtain ⟨x, rfl, rfl⟩ := getD_map _ _ _ i s v h1 h2
      exact (hat x).1) he
     simpa using this
   . have hm : c.args.map a.eval = (c.args.toList.map a.eval).toArray := arr_of_toList (by simp)
     simp only [execOp, hop, resolve, hcal, hm]
     rfl
 . rename_i f hcal
   split at he
   . rename_i cs hcs
     obtain ⟨h1, _⟩ := ones_rep hS c.args.toList hcs
     have hrun : ∀ {fn : Func}, cx.P.funcs[f]? = some fn -> fn.body.isSome = true -> (fn.name == "runtime.NumGoroutine") = false -> (execOp a.eval o).run cx.P w = .ok (.enter f (c.args.toList.map a.eval).toArray) w := by
      intro fn g1 g2 g3
      have hm : c.args.map a.eval = (c.args.toList.map a.eval).toArray := arr_of_toList (by simp)
      have hev : a.eval (.func f) = .func (.func f) #[] #[] := rfl
      simp only [execOp, hop, resolve, hcal, hev, Deferred.ofValue, Sem.run_bind, Sem.run_pure, Result.andThen_ok, invoke, hm]
      have : #[] ++ (c.args.toList.map a.eval).toArray ++ #[] = (c.args.toList.map a.eval).toArray := by simp
      rw [this]
      exact run_callFunc g1 g2 g3
     split at he
     . rename_i en hw
       obtain ⟨g, hg⟩ : ∃ g, E.fw f g = some en := by
        unfold wiredOf at hw
        split at hw
        . exact ⟨_, hw⟩
        . cases hw
       obtain ⟨_, fn, g1, g2, g3⟩ := hE.fw f g en hg
       exact enter_wp (callW_ok hE hO hS hg h1 he) hd (hrun g1 g2 g3)
     . split at he
       . rename_i s hs
         obtain ⟨_, fn, g1, g2, g3⟩ := hE.fs f s hs
         exact enter_wp (callM_ok hE hO hS hs h1 he) hd (hrun g1 g2 g3)
       . cases he
   . cases he
 . rename_i t hcal
   split at he
   . rename_i f caps cs hclo hcs
     obtain ⟨h1, _⟩ := ones_rep hS c.args.toList hcs
     have hv := hat (.tmp t)
     rw [hclo] at hv
     obtain ⟨_, ⟨vs, rfl, hcaps⟩, hval⟩ := hv.1
     have h2 := AllRep.app cs h1 (caps_rep caps hcaps hv.2)
     have hrun : ∀ {fn : Func}, cx.P.funcs[f]? = some fn -> fn.body.isSome = true -> (fn.name == "runtime.NumGoroutine") = false -> (execOp a.eval o).run cx.P w = .ok (.enter f (c.args.toList.map a.eval ++ vs).toArray) w := by
      intro fn g1 g2 g3
      have hm : c.args.map a.eval = (c.args.toList.map a.eval).toArray := arr_of_toList (by simp)
      have hev : a.eval (.tmp t) = .func (.func f) #[] vs.toArray := hval
      simp only [execOp, hop, resolve, hcal, hev, Deferred.ofValue, Sem.run_bind, Sem.run_pure, Result.andThen_ok, invoke, hm]
      have : #[] ++ (c.args.toList.map a.eval).toArray ++ vs.toArray = (c.args.toList.map a.eval ++ vs).toArray := by simp
      rw [this]
      exact run_callFunc g1 g2 g3
     split at he
     . rename_i en hw
       obtain ⟨_, fn, g1, g2, g3⟩ := hE.fw f f en hw
       exact enter_wp (callW_ok hE hO hS hw h2 he) hd (hrun g1 g2 g3)
     . split at he
       . rename_i s hs
         obtain ⟨_, fn, g1, g2, g3⟩ := hE.fs f s hs
         exact enter_wp (callM_ok hE hO hS hs h2 he) hd (hrun g1 g2 g3)
       . cases he
   . rename_i A B pre g d hfn hcs
     obtain ⟨h1, hdf⟩ := ones_rep hS c.args.toList hcs
     obtain ⟨v, r, hvr, hvd, hkd, hr⟩ := h1
     have hr' : r = [] := hr
     subst hr'
     have hv := hat (.tmp t)
     rw [hfn] at hv
     obtain ⟨_, ⟨fv, rfl, f, caps, rfl, hB, hcf, himp⟩, hval⟩ := hv.1
     obtain ⟨x, hx, he⟩ := ev_bind_some he
     obtain ⟨hpre, he⟩ := ev_chk he
     have he' : (⟨.one (.dat B (g x)), [], none⟩ : Eff) = e := by simpa [ok, M.ev] using he
     subst he'
     obtain ⟨d1, d2⟩ := toDat_def hx
     obtain ⟨cs', hc, rfl⟩ := val_cells hvd d1 d2
     obtain ⟨k1, k2⟩ := toDat_ok hO A d hx hc
     have hcalls := himp w (fun b => Av b \/ Of φ ψ σ.objs d.ids b) x cs' (fun _ _ => rfl) (fun b hb => by
      rcases hb with hb | ⟨o, y, _, hy, hb⟩
      . exact (hO.av b hb).1
      . exact (hO.own o y hy b hb).1) k1 hpre
     have hlen : ∃ z, c.args.toList = [z] := by
      have h3 := congrArg length hvr
      simp only [List.length_map, Zg, Zh] at h3
      match c.args.toList, h3 with
      | [z], _ => exact ⟨z, rfl⟩
     obtain ⟨z, hz⟩ := hlen
     rw [hz] at hvr
     simp only [List.map_cons, List.map_nil, List.cons.injEq, and_true] at hvr
     refine enter_wp (f := f) (args := #[mkVal A.isSt cs'] ++ caps) (Calls.mono hcalls fun d' w' hp => ?_) hd ?_
     . obtain ⟨rc, rfl, h5, h6, h7⟩ := hp
       have s : Stepped cx φ ψ Av σ.objs w φ ψ Av (putAll σ.objs []) [] w' :=
        ⟨fun o => rfl, fun _ _ => rfl, fun _ _ _ => rfl, fun _ hb => hb, fun _ hb => .inl hb, fun b hb _ => h6 b hb, h7, (fun o x hx => by cases hx), (fun o x hx => by cases hx), (fun o x o' x' hx => by cases hx), (fun o x hx => by cases hx), fun o x hx hn q hq hu => by cases hu⟩
       refine ⟨_, rfl, φ, ψ, Av, putAll σ.objs [], fun _ => rfl, hO.step s, (InvS.step hO s hS fun t x hx q hq hu => by cases hu), ⟨rc, ?_, rfl⟩, (fun q hq => by cases hq)⟩
       exact rdF_agr (fun b hb => hb.elim) (fun _ _ => rfl) B h5
     . have hev : a.eval (.tmp t) = .func (.func f) #[] caps := hval
       have hm : c.args.map a.eval = #[mkVal A.isSt cs'] := by
        rw [arr_of_toList (a := c.args.map a.eval) (l := [mkVal A.isSt cs']) (by rw [Array.toList_map, hz]; simp only [List.map_cons, List.map_nil]; rw [hvr, k2])]
       simp only [execOp, hop, resolve, hcal, hev, Deferred.ofValue, Sem.run_bind, Sem.run_pure, Result.andThen_ok, invoke, hm]
       have : #[] ++ #[mkVal A.isSt cs'] ++ caps = #[mkVal A.isSt cs'] ++ caps := by simp
       rw [this]
       exact hcf _ _
   . cases he
 . cases he
theorem op_ok {o : Oper} {n : Nat} (hE : EnvOk cx.P E) (hI : Inv cx σ a w) (he : (opM E n o σ.at).ev (find σ.objs) = some e) : Wp cx σ o a w e := by
 obtain ⟨hd, φ, ψ, Av, hO, hS⟩ := hI
 have hat := at_rep hS
 have give : ∀ {r : Sem Value}, GiveE cx φ w Av σ.objs r e -> execOp a.eval o = (do pure (.value (<- r))) -> Wp cx σ o a w e := fun h hx => does_wp (h.does hO hS) hd hx
 unfold opM at he
 split at he
 . rename_i x hop
   simp only [M.ev, Zc] at he
   subst he
   exact give (r := pure (a.eval x)) ⟨⟨_, by rw [Sem.run_pure], (hat x).1⟩, rfl, rfl, (hat x).2⟩ (by simp only [execOp, hop]; rfl)
 . rename_i x hop
   simp only [M.ev, Zc] at he
   subst he
   exact give (r := pure (a.eval x)) ⟨⟨_, by rw [Sem.run_pure], (hat x).1⟩, rfl, rfl, (hat x).2⟩ (by simp only [execOp, hop]; rfl)
 ·
  rename_i c x y hop
  split at he
  . rename_i b hc
    have hb := (hat c).1
    rw [hc] at hb
    have hb := of_bool hb
    simp only [M.ev] at he
    have hex : execOp a.eval o = (do pure (.value (<- (pure (if b = true then a.eval x else a.eval y) : Sem Value)))) := by
     simp only [execOp, hop, hb, asBool]; rfl
    split at he
    . rename_i hbt
      simp only [M.ev, Zc] at he
      subst he
      refine give ⟨⟨_, by rw [Sem.run_pure], ?_⟩, rfl, rfl, (hat x).2⟩ hex
      rw [if_pos hbt]; exact (hat x).1
    . rename_i hbt
      simp only [M.ev, Zc] at he
      subst he
      refine give ⟨⟨_, by rw [Sem.run_pure], ?_⟩, rfl, rfl, (hat y).2⟩ hex
      rw [if_neg hbt]; exact (hat y).1
  . cases he
 ·
  rename_i op _ x hop
  have hx := (hat x).1
  split at he
  . rename_i b hc
    rw [hc] at hx
    have hb := of_bool hx
    refine give (r := Op.unary .not (a.eval x)) (gives_bool he ?_) (by simp only [execOp, hop])
    rw [hb]; rfl
  . rename_i k m hc
    rw [hc] at hx
    obtain ⟨hb, hm⟩ := of_int hx
    refine give (r := Op.unary .neg (a.eval x)) (gives_int he ?_ (inK_wrap _ _)) (by simp only [execOp, hop])
    rw [hb]; rfl
  . cases he
 . rename_i op t x y _ hop
   exact give (binM_ok (ox := x) (oy := y) hE hO (hat x).1 (hat y).1 he) (by simp only [execOp, hop])
 ·
  rename_i s d x hop
  have hex : execOp a.eval o = (do pure (.value (<- convert s d (a.eval x)))) := by simp only [execOp, hop]
  by_cases hb : ∃ t, E.ty s = some .str /\ E.ty d = some (.sl t (.int .u8))
  . obtain ⟨t, h1, h2⟩ := hb
    have hx := (hat x).1
    generalize hsx : σ.at x = sx at he hx
    rw [h1, h2] at he
    cases sx with
    | tup c => cases he
    | one c =>
     cases c with
     | dat U z =>
      cases U with
      | str =>
       simp only [convM] at he
       obtain ⟨h3, he⟩ := ev_chk he
       obtain ⟨_, h4, he⟩ := ev_bind_some he
       simp only [M.ev, Zc] at he
       subst he
       obtain ⟨hv, _⟩ := of_str hx
       refine does_wp ?_ hd hex
       rw [hv]
       exact bytes_ok hE hO hS h1 h2 (Ze h3) (fresh_one h4)
      | _ => cases he
     | _ => cases he
  . exact give (convM_ok hE hO (hat x).1 (fun t h => hb ⟨t, h⟩) he) hex
 ·
  rename_i f first caps hop
  split at he
  . rename_i l hf hl
    have hfe : first = #[] := by cases first; simp_all
    subst hfe
    obtain ⟨h1, h2⟩ := ones_rep hS caps.toList hl
    obtain ⟨g1, g2⟩ := caps_list l h1 h2
    refine give (r := Instr.makeFunc (.func f) (#[].map a.eval) (caps.map a.eval)) (gives_ok he (v := .func (.func f) #[] (caps.toList.map a.eval).toArray) ?_ ⟨_, ⟨_, rfl, g1⟩, rfl⟩ g2) (by simp only [execOp, hop])
    simp only [Instr.makeFunc, Sem.run_pure]
    rw [arr_of_list (a := caps.map a.eval) (l := caps.toList.map a.eval) (by simp)]
    simp
  . cases he
 ·
  rename_i t hop
  split at he
  . rename_i T hT
    rw [Zi] at he
    split at he
    . rename_i ht
      obtain ⟨_, h4, he⟩ := ev_bind_some he
      simp only [M.ev, Zc] at he
      subst he
      rcases Bool.or_eq_true_iff.1 ht with ht | ht
      . exact does_wp (alloc_ok hE hO hS hT ht (fresh_one h4)) hd (by simp only [execOp, hop])
      . have ht := Ze ht
        subst ht
        exact does_wp (allocOp_ok hE hO hS hT (fresh_one h4)) hd (by simp only [execOp, hop])
    . cases he
  . cases he
 ·
  rename_i t x hop
  split at he
  . rename_i T c hT hc
    have hx := hat x
    rw [hc] at hx
    rw [Zi] at he
    split at he
    . rename_i ht
      simp only [Zb] at ht
      obtain ⟨_, h4, he⟩ := ev_bind_some he
      simp only [M.ev, Zc] at he
      subst he
      exact does_wp (box_ok (t := t) hO hS hx.1 hx.2 ht.1 ht.2 (fresh_one h4)) hd (by simp only [execOp, hop])
    . cases he
  . cases he
 ·
  rename_i t ps hop
  split at he
  . rename_i T hT
    split at he
    . rename_i c hc
      rw [Zi] at he
      split at he
      . rename_i ht
        simp only [Zb] at ht
        exact give (build_ok (ρ := a.eval) hE hT ht.1 ht.2 hat hc he) (by simp only [execOp, hop])
      . cases he
    . cases he
  . cases he
 ·
  rename_i t len ps hop
  split at he
  . rename_i t' T hT
    rw [Zi] at he
    split at he
    . rename_i hc
      simp only [Zb, Nat.beq_eq, Nat.ble_eq] at hc
      obtain ⟨⟨⟨c1, c2⟩, c3⟩, c4⟩ := hc
      obtain ⟨r, h1, he⟩ := ev_bind_some he
      rw [Zi] at he
      split at he
      . rename_i hnd
        obtain ⟨_, h4, he⟩ := ev_bind_some he
        simp only [M.ev, Zc] at he
        subst he
        exact does_wp (buildSlice_ok (ρ := a.eval) hE hO hS hT c4 hat (fresh_one h4) c1 c2 c3 h1 (nodupB_ok _ hnd)) hd (by simp only [execOp, hop])
      . cases he
    . cases he
  . cases he
 . rename_i t x hop
   exact give (loadM_ok hE hO (hat x).1 (hat x).2 he) (by simp only [execOp, hop])
 . rename_i t x v hop
   exact skip_wp (storeM_ok hE hO hS (hat x).1 (hat v).1 (hat v).2 he) hd (by simp only [execOp, hop])
 ·
  rename_i x hop
  have hx := hat x
  split at he
  . rename_i q p T hc
    rw [hc] at hx
    obtain ⟨cs, ⟨h1, rfl⟩, hv⟩ := hx.1
    refine give (r := pure (a.eval x)) (gives_ok he (by simp) hx.1 hx.2) (by simp only [execOp, hop, hv]; rfl)
  . rename_i q p T hc
    rw [hc] at hx
    obtain ⟨cs, ⟨h1, rfl, _⟩, hv⟩ := hx.1
    refine give (r := pure (a.eval x)) (gives_ok he (by simp) hx.1 hx.2) (by simp only [execOp, hop, hv]; rfl)
  . rename_i T z hc
    rw [hc] at hx
    obtain ⟨cs, ⟨b, off, l, rfl, _⟩, hv⟩ := hx.1
    refine give (r := pure (a.eval x)) (gives_ok he (by simp) hx.1 hx.2) (by simp only [execOp, hop, hv]; rfl)
  . cases he
 . rename_i t x k hop
   exact give (fieldAddr_ok hE hO (hat x).1 (hat x).2 he) (by simp only [execOp, hop])
 ·
  rename_i t x k hop
  split at he
  . rename_i T c hT hc
    have hx := hat x
    rw [hc] at hx
    split at he
    . rename_i U hn
      rw [Zi] at he
      split at he
      . rename_i hf
        exact give (field_ok hE hT hn hf hx.1 hx.2 he) (by simp only [execOp, hop])
      . cases he
    . cases he
  . cases he
 . rename_i t x i hop
   exact give (indexM_ok hE hO (hat x).1 (hat x).2 (hat i).1 he) (by simp only [execOp, hop])
 ·
  rename_i t x i hop
  split at he
  . rename_i s k n hT hs hi
    have hx := (hat x).1
    have hy := (hat i).1
    rw [hs] at hx
    rw [hi] at hy
    obtain ⟨hv, _⟩ := of_str hx
    obtain ⟨hw, _⟩ := of_int hy
    obtain ⟨c1, he⟩ := ev_chk he
    obtain ⟨c2, he⟩ := ev_chk he
    refine give (r := Instr.index t (a.eval x) (a.eval i)) ?_ (by simp only [execOp, hop])
    rw [hv, hw]
    exact index_ok hE hT (Ze c1) (Ze c2) he
  . cases he
 ·
  rename_i t x lo hi mx hop
  split at he
  . rename_i l h m h1 h2 h3
    exact give (sliceM_ok hE hO (hat x).1 (hat x).2 (bnd_ok hS lo h1) (bnd_ok hS hi h2) (bnd_ok hS mx h3) he) (by simp only [execOp, hop])
  . cases he
 ·
  rename_i x k hop
  split at he
  . rename_i c hc
    have hx := hat x
    rw [hc] at hx
    split at he
    . rename_i d hcd
      obtain ⟨vs, hv, hvs⟩ := hx.1
      obtain ⟨v, g1, g2, g3⟩ := comp_rep c hcd hvs
      refine give (r := Instr.extract (a.eval x) k) (gives_ok he (v := v) ?_ g2 (fun q hq => hx.2 q (g3 q hq))) (by simp only [execOp, hop])
      rw [hv]
      simp [Instr.extract, g1]
    . cases he
  . cases he
 ·
  rename_i t l c hop
  split at he
  . rename_i t' T _ x _ y hT hl hc
    rw [Zi] at he
    split at he
    . rename_i ht
      obtain ⟨c1, he⟩ := ev_chk he
      obtain ⟨c2, he⟩ := ev_chk he
      obtain ⟨c3, he⟩ := ev_chk he
      obtain ⟨_, h4, he⟩ := ev_bind_some he
      simp only [M.ev, Zc] at he
      subst he
      have hx := (hat l).1
      have hy := (hat c).1
      rw [hl] at hx
      rw [hc] at hy
      obtain ⟨hv, _⟩ := of_int hx
      obtain ⟨hw, _⟩ := of_int hy
      refine does_wp (r := Instr.makeSlice t (a.eval l) (a.eval c)) ?_ hd (by simp only [execOp, hop])
      rw [hv, hw]
      exact makeSlice_ok hE hO hS hT ht (fresh_one h4) (Ze c1) (Ze c2) (Ze c3)
    . cases he
  . cases he
 ·
  rename_i c hop
  exact call_ok hE ⟨hd, φ, ψ, Av, hO, hS⟩ hop he
 . cases he
end
end Go.Aw
