/-
  How a function ends: its contract.
-/
import Derived.Test.YtdgpjdedpkpfhaaAxD
namespace Go.Aw

section
variable {cx : Cx} {φ : Nat → Info} {ψ : Nat → Nat → Prop} {w : World} {Av : Nat → Prop} {objs : List (Nat × Obj)} {E : Env}

theorem outs_ok (hO : InvO cx φ ψ Av objs w) : (ps : List PM) → (xs : Args ps) → (n : Nat) → {vs : List Value} → {Fs : List (Nat → Prop)} → {o : OutP ps × List Nat} → Known cx.P cx.w0 cx.φ0 cx.pin ps xs n vs → (outsM ps xs n).ev (find objs) = some o → o.2.Nodup →
    ∃ Gs, outRep cx.w0 w Av ps o.1 vs Fs Gs ∧ Apart Gs ∧ ∀ q, Some_ Gs q → Of φ ψ objs o.2 q
  | [], xs, n, vs, Fs, o, hk, h, hn => by
    simp only [outsM, M.ev, Option.some.injEq] at h
    subst h
    exact ⟨[], rfl, List.Pairwise.nil, fun q ⟨G, hG, _⟩ => by cases hG⟩
  | .val T m :: ps, xs, n, vs, Fs, o, hk, h, hn => outs_ok hO ps xs.2 (n + 64) (Fs := Fs.tail) hk h hn
  | .fn A B :: ps, xs, n, vs, Fs, o, hk, h, hn => outs_ok hO ps xs.2 (n + 64) (Fs := Fs.tail) hk h hn
  | .peek T :: ps, xs, n, vs, Fs, o, hk, h, hn => outs_ok hO ps xs.2 (n + 64) (Fs := Fs.tail) hk h hn
  | .mut T :: ps, xs, n, vs, Fs, o, hk, h, hn => by
    have h' : ((toOwn T (mkOwn T xs.1 (n + 30000001)).c).bind fun x => (outsM ps xs.2 (n + 64)).bind fun r => M.ret (((x.1, r.1), x.2 ++ r.2) : OutP (.mut T :: ps) × List Nat)).ev (find objs) = some o := h
    obtain ⟨x, h1, h2⟩ := ev_bind_some h'
    obtain ⟨r, h3, h4⟩ := ev_bind_some h2
    simp only [M.ev, Option.some.injEq] at h4
    subst h4
    have hn' := hn
    simp only [List.nodup_append] at hn'
    obtain ⟨⟨cs, hv, hlen, hcs, hdeep, hpin⟩, hk2⟩ := hk
    have hc : (mkOwn T xs.1 (n + 30000001)).c.cells cx.P φ w Av (alive objs) cs :=
      cells_agr (al := alive objs) (al' := alive objs) (fun _ h => h.elim) (fun _ h => h.elim) _ (fun q hq => (hO.pin q (hpin q hq).1).1) (fun q hq => by rw [hdeep] at hq; cases hq) (hcs (alive objs))
    obtain ⟨F, g1, g2, g3, g4⟩ := toOwn_ok hO T _ h1 hn'.1 hc
    obtain ⟨Gs, k1, k2, k3⟩ := outs_ok hO ps xs.2 (n + 64) (Fs := Fs.tail) hk2 h3 hn'.2.1
    refine ⟨F :: Gs, ⟨_, F, Gs, hv, rfl, ⟨cs, rfl, hlen, g1⟩, k1⟩, List.Pairwise.cons (fun G hG q hq hq' => Of_disj hO hn (g2 q hq) (k3 q ⟨G, hG, hq'⟩)) k2, fun q hq => ?_⟩
    exact Of_app.2 ((Some_cons.1 hq).imp (g2 q) (k3 q))
  | .ref T m :: ps, xs, n, vs, Fs, o, hk, h, hn => by
    simp only [outsM, M.ev] at h
    split at h
    · rename_i U c hfo
      rw [Bool.cond_eq_ite] at h
      split at h
      · rename_i hU
        have hU : U = T := of_decide_eq_true hU
        subst hU
        obtain ⟨x, h1, h2⟩ := ev_bind_some h
        obtain ⟨r, h3, h4⟩ := ev_bind_some h2
        simp only [M.ev, Option.some.injEq] at h4
        subst h4
        have hn1 : (n :: (x.2 ++ r.2)).Nodup := hn
        have hn' := hn1
        rw [List.nodup_cons, List.nodup_append] at hn'
        obtain ⟨⟨hpin, c0, hv, hb0, hpre, hpost, hlen⟩, hk2⟩ := hk
        obtain ⟨hφ, _⟩ := hO.pin _ hpin
        rw [← hφ] at hv hb0 hpre hpost hlen
        obtain ⟨g1, g2, mid, g3, g4, g5⟩ := hO.reps n _ hfo
        have hml := cells_len g2 g3
        obtain ⟨F0, f1, f2, f3, f4⟩ := toMd_ok hO m U c h1 hn'.2.1 g3
        obtain ⟨Gs, k1, k2, k3⟩ := outs_ok hO ps xs.2 (n + 64) (Fs := Fs.tail) hk2 h3 hn'.2.2.1
        have hF0b : ¬ F0 (φ n).b := fun hq => Of_disj hO (l := [n]) (r := x.2) (by
          simp only [List.singleton_append, List.nodup_cons]
          exact ⟨fun h => hn'.1 (List.mem_append.2 (.inl h)), hn'.2.1⟩) ⟨n, _, by simp, hfo, rfl⟩ (f2 _ hq)
        have hpl : (φ n).pre.length ≤ c0.toList.length := by omega
        have ht : Turned cx.w0 w (φ n).b (φ n).pre.length U.sz ((φ n).pre ++ mid ++ (φ n).post).toArray := by
          intro c' E' fr' hc'
          rw [hb0] at hc'
          simp only [Option.some.injEq, Go.Obj.cells.injEq] at hc'
          obtain ⟨rfl, rfl, rfl⟩ := hc'
          have hpol : (φ n).post.length = c0.toList.length - ((φ n).pre.length + U.sz) := by rw [hpost, List.length_drop]
          refine ⟨g4, ?_, fun j hj => ?_⟩
          · rw [List.size_toArray, List.length_append, List.length_append, hml, hpol, ← Array.length_toList]; omega
          · show ((φ n).pre ++ mid ++ (φ n).post)[j]? = c0.toList[j]?
            rcases hj with hj | hj
            · rw [List.append_assoc, List.getElem?_append_left hj]
              conv => lhs; rw [hpre]
              exact List.getElem?_take_of_lt hj
            · rw [List.getElem?_append_right (by rw [List.length_append]; omega), hpost, List.getElem?_drop]
              congr 1
              rw [List.length_append]; omega
        have hsg : seg ((φ n).pre ++ mid ++ (φ n).post) (φ n).pre.length U.sz = mid := by
          unfold seg
          rw [List.append_assoc, List.drop_left, ← hml, List.take_left]
        refine ⟨(fun q => q = (φ n).b ∨ F0 q) :: Gs, ⟨(φ n).b, (φ n).pre.length, _, F0, Gs, _, hv, rfl, ht, ?_, hF0b, fun _ => Iff.rfl, k1⟩, List.Pairwise.cons (fun G hG q hq hq' => ?_) k2, fun q hq => ?_⟩
        · show rdM w Av m U x.1 (seg ((φ n).pre ++ mid ++ (φ n).post) _ U.sz) F0
          rw [hsg]; exact f1
        · have hn2 : ((n :: x.2) ++ r.2).Nodup := hn1
          rcases hq with rfl | hq
          · exact Of_disj hO hn2 ⟨n, _, by simp, hfo, rfl⟩ (k3 _ ⟨G, hG, hq'⟩)
          · obtain ⟨q1, q2, q3, q4⟩ := f2 q hq
            exact Of_disj hO hn2 ⟨q1, q2, List.mem_cons_of_mem _ q3, q4⟩ (k3 _ ⟨G, hG, hq'⟩)
        · rcases Some_cons.1 hq with hq | hq
          · rcases hq with rfl | hq
            · exact ⟨n, _, by simp, hfo, rfl⟩
            · obtain ⟨q1, q2, q3, q4⟩ := f2 q hq
              exact ⟨q1, q2, by simp [q3], q4⟩
          · obtain ⟨q1, q2, q3, q4⟩ := k3 q hq
            exact ⟨q1, q2, by simp [q3], q4⟩
      · cases h
    · cases h

theorem resM_ok (hO : InvO cx φ ψ Av objs w) {AvE : Nat → Prop} (hA : ∀ b, Av b → AvE b) : (rs : List (Ty × Md)) → (cs : List CT) → {vs : List Value} → {r : Res rs × List Nat × List Nat} → AllRep cx φ w Av objs cs vs → (resM rs cs).ev (find objs) = some r → r.2.1.Nodup → (∀ b, Of φ ψ objs r.2.2 b → AvE b) →
    ∃ Hs, resRep w AvE rs r.1 vs Hs ∧ Apart Hs ∧ ∀ q, Some_ Hs q → Of φ ψ objs r.2.1 q
  | [], cs, vs, r, hr, h, hn, hu => by
    cases cs with
    | nil =>
      simp only [resM, M.ev, Option.some.injEq] at h
      subst h
      have hr' : vs = [] := hr
      exact ⟨[], ⟨hr', rfl⟩, List.Pairwise.nil, fun q ⟨G, hG, _⟩ => by cases hG⟩
    | cons c cs => cases h
  | (T, m) :: rs, cs, vs, r, hr, h, hn, hu => by
    cases cs with
    | nil => cases m <;> cases h
    | cons c cs =>
      obtain ⟨v, us, rfl, hv, hk, hr⟩ := hr
      have own : ∀ {x : T.D × List Nat} {r' : Res rs × List Nat × List Nat}, (toMd m T c).ev (find objs) = some x → (resM rs cs).ev (find objs) = some r' → r = ((x.1, r'.1), x.2 ++ r'.2.1, r'.2.2) →
          ∃ Hs, resRep w AvE ((T, m) :: rs) r.1 (v :: us) Hs ∧ Apart Hs ∧ ∀ q, Some_ Hs q → Of φ ψ objs r.2.1 q := by
        rintro x r' h1 h3 rfl
        have hn' := hn
        simp only [List.nodup_append] at hn'
        obtain ⟨d1, d2⟩ := argsM_ok.toMd_def h1
        obtain ⟨cs', hc, rfl⟩ := val_cells hv d1 d2
        obtain ⟨F, g1, g2, g3, g4⟩ := toMd_ok hO m T c h1 hn'.1 hc
        obtain ⟨Hs, k1, k2, k3⟩ := resM_ok hO hA rs cs hr h3 hn'.2.1 hu
        exact ⟨F :: Hs, ⟨_, us, F, Hs, rfl, rfl, ⟨cs', by rw [g4], rdM_mono hA m T g1⟩, k1⟩, List.Pairwise.cons (fun G hG q hq hq' => Of_disj hO hn (g2 q hq) (k3 q ⟨G, hG, hq'⟩)) k2, fun q hq => Of_app.2 ((Some_cons.1 hq).imp (g2 q) (k3 q))⟩
      cases m with
      | f =>
        have h' : ((toDat T c).bind fun x => (resM rs cs).bind fun r => M.ret (((x, r.1), r.2.1, c.ids ++ r.2.2) : Res ((T, .f) :: rs) × List Nat × List Nat)).ev (find objs) = some r := h
        obtain ⟨x, h1, h2⟩ := ev_bind_some h'
        obtain ⟨r', h3, h4⟩ := ev_bind_some h2
        simp only [M.ev, Option.some.injEq] at h4
        subst h4
        obtain ⟨d1, d2⟩ := toDat_def h1
        obtain ⟨cs', hc, rfl⟩ := val_cells hv d1 d2
        obtain ⟨g1, g2⟩ := toDat_ok hO T c h1 hc
        obtain ⟨Hs, k1, k2, k3⟩ := resM_ok hO hA rs cs hr h3 hn (fun b hb => hu b (Of_app.2 (.inr hb)))
        refine ⟨(fun _ => False) :: Hs, ⟨_, us, _, Hs, rfl, rfl, ⟨cs', by rw [g2], rdF_agr (fun b hb => hb.elim (hA b) fun hb => hu b (Of_app.2 (.inl hb))) (fun _ _ => rfl) T g1, fun _ h => h⟩, k1⟩, List.Pairwise.cons (fun G _ q hq => hq.elim) k2, fun q hq => (Some_cons.1 hq).elim (fun h => h.elim) (k3 q)⟩
      | o =>
        have h' : ((toMd .o T c).bind fun x => (resM rs cs).bind fun r => M.ret (((x.1, r.1), x.2 ++ r.2.1, r.2.2) : Res ((T, .o) :: rs) × List Nat × List Nat)).ev (find objs) = some r := h
        obtain ⟨x, h1, h2⟩ := ev_bind_some h'
        obtain ⟨r', h3, h4⟩ := ev_bind_some h2
        simp only [M.ev, Option.some.injEq] at h4
        exact own h1 h3 h4.symm
      | pair m k =>
        have h' : ((toMd (.pair m k) T c).bind fun x => (resM rs cs).bind fun r => M.ret (((x.1, r.1), x.2 ++ r.2.1, r.2.2) : Res ((T, .pair m k) :: rs) × List Nat × List Nat)).ev (find objs) = some r := h
        obtain ⟨x, h1, h2⟩ := ev_bind_some h'
        obtain ⟨r', h3, h4⟩ := ev_bind_some h2
        simp only [M.ev, Option.some.injEq] at h4
        exact own h1 h3 h4.symm

/-- One result. -/
def resRun (tmps : Array Value) : ResultVar → Sem Value
  | .tmp t => pure (tmps.getD t undef)
  | .cell a t => do loadVar t (← asAddr (tmps.getD a undef))

theorem resCTs_ok {σ : St} {tmps : Array Value} (hE : EnvOk cx.P E) (hO : InvO cx φ ψ Av σ.objs w) (hS : InvS cx.P φ Av σ tmps w) : (l : List ResultVar) → {cs : List CT} → resCTs E σ l = some cs →
    ∃ vs, AllRep cx φ w Av σ.objs cs vs ∧ (l.mapM (resRun tmps)).run cx.P w = .ok vs w
  | [], cs, h => by
    simp only [resCTs, Option.some.injEq] at h
    subst h
    exact ⟨[], rfl, by simp⟩
  | .tmp t :: l, cs, h => by
    simp only [resCTs] at h
    have hat := at_rep (a := ⟨tmps, []⟩) hS (.tmp t)
    simp only [St.at] at hat
    split at h
    · rename_i c cs' hc hl
      simp only [Option.some.injEq] at h
      subst h
      rw [hc] at hat
      obtain ⟨vs, h1, h2⟩ := resCTs_ok hE hO hS l hl
      refine ⟨tmps.getD t undef :: vs, ⟨_, vs, rfl, hat.1, hat.2, h1⟩, ?_⟩
      simp only [List.mapM_cons, resRun, Sem.run_bind, Sem.run_pure, Result.andThen_ok, h2]
    · cases h
  | .cell t ty :: l, cs, h => by
    simp only [resCTs] at h
    have hat := at_rep (a := ⟨tmps, []⟩) hS (.tmp t)
    simp only [St.at] at hat
    split at h
    · rename_i o U T cs' hc hT hl
      split at h
      · rename_i V c ho
        rw [Bool.cond_eq_ite] at h
        split at h
        · rename_i hcc
          simp only [Bool.and_eq_true, decide_eq_true_eq] at hcc
          obtain ⟨⟨rfl, rfl⟩, hfit⟩ := hcc
          simp only [Option.some.injEq] at h
          subst h
          rw [hc] at hat
          obtain ⟨cs2, ⟨h1, rfl⟩, hval⟩ := hat.1
          have hval : tmps.getD t undef = .pointer (some ⟨(φ o).b, (φ o).pre.length, none⟩) := by
            have : Act.eval ⟨tmps, []⟩ (.tmp t) = tmps.getD t undef := rfl
            rw [← this, hval]
            simp [mkVal, CT.isSt, Ty.offp]
          obtain ⟨g1, g2, mid, g3, g4, g5⟩ := hO.reps o _ ho
          have hml := cells_len g2 g3
          obtain ⟨vs, k1, k2⟩ := resCTs_ok hE hO hS l hl
          have hsg : seg ((φ o).pre ++ mid ++ (φ o).post) (φ o).pre.length V.sz = mid := by
            unfold seg
            rw [List.append_assoc, List.drop_left, ← hml, List.take_left]
          have hld : (loadVar ty ⟨(φ o).b, (φ o).pre.length, none⟩).run cx.P w = .ok (mkVal V.isSt mid) w := by
            have := run_loadVar (off := (φ o).pre.length) (hE.ty ty V hT) (blk_of g4) (by
              show _ ≤ ((φ o).pre ++ mid ++ (φ o).post).length
              simp only [List.length_append, hml]; omega)
            rwa [hsg] at this
          refine ⟨mkVal V.isSt mid :: vs, ⟨_, vs, rfl, val_of_cells g2 g3, fun q hq => hO.names o _ ho q hq, k1⟩, ?_⟩
          simp only [List.mapM_cons, resRun, hval, asAddr, Sem.run_bind, Sem.run_pure, Result.andThen_ok, hld, k2]
        · cases h
      · cases h
    · cases h

theorem run_results {P : Program} {fn : Func} {tmps : Array Value} {vs : List Value} (h : (fn.results.toList.mapM (resRun tmps)).run P w = .ok vs w) : (results fn tmps).run P w = .ok (retVal vs) w := by
  have e : (results fn tmps) = (do
      let vs ← fn.results.mapM (resRun tmps)
      pure (if h : vs.size = 1 then vs[0] else .tuple vs)) := by
    unfold results
    congr 1
  rw [e, Array.mapM_eq_mapM_toList]
  simp only [Sem.run_bind, Sem.run_map, h, Result.andThen_ok, Sem.run_pure]
  match vs with
  | [] => rfl
  | [v] => rfl
  | v :: u :: r => rfl

theorem slots_len {P : Program} {φ : Nat → Info} {w : World} {Av : Nat → Prop} {objs : List (Nat × Obj)} : (cs : List SV) → {vs : List Value} → Slots P φ w Av objs cs vs → vs.length = cs.length
  | [], vs, h => by
    have : vs = [] := h
    rw [this]; rfl
  | s :: cs, vs, h => by
    obtain ⟨v, r, rfl, _, _, _, h5⟩ := h
    simp [slots_len cs h5]

theorem slots_get {P : Program} {φ : Nat → Info} {w : World} {Av : Nat → Prop} {objs : List (Nat × Obj)} : (cs : List SV) → {vs : List Value} → {t : Nat} → {s : SV} → {v : Value} → Slots P φ w Av objs cs vs → cs[t]? = some s → vs[t]? = some v →
    (∀ al, s.rep P φ w Av al v) ∧ ∀ q ∈ s.named, q ∈ objs.map (·.1)
  | [], vs, t, s, v, h, hs, hv => by simp at hs
  | c :: cs, vs, t, s, v, h, hs, hv => by
    obtain ⟨v0, r, rfl, h2, h3, _, h5⟩ := h
    cases t with
    | zero =>
      simp only [List.getElem?_cons_zero, Option.some.injEq] at hs hv
      subst hs; subst hv
      exact ⟨h2, h3⟩
    | succ t =>
      simp only [List.getElem?_cons_succ] at hs hv
      exact slots_get cs h5 hs hv

theorem end_ok {σ : St} {fn : Func} {s : FS} {a : Act} {vs : List Value} {Fs : List (Nat → Prop)} {xs : Args s.ps} (hE : EnvOk cx.P E) (hI : Inv cx σ a w) (kn : Known cx.P cx.w0 cx.φ0 cx.pin s.ps xs 10000000 vs) (hfp : cx.fp0 = Some_ Fs)
    (h : endK E fn s.ps s.rs xs σ = some (s.fn xs)) : bodyPost cx.P fn (Post cx.w0 cx.Av0 s xs vs Fs) .normal a w := by
  obtain ⟨hd, φ, ψ, Av, hO, hS⟩ := hI
  unfold endK at h
  split at h
  · cases h
  · rename_i cs hcs
    obtain ⟨rv, g1, g2⟩ := resCTs_ok hE hO hS _ hcs
    obtain ⟨x, L, hv, h⟩ := run_val _ h
    have hev := val_ev _ hv
    obtain ⟨o, h1, hev⟩ := ev_bind_some hev
    obtain ⟨r, h3, h4⟩ := ev_bind_some hev
    simp only [M.ev, Option.some.injEq] at h4
    subst h4
    simp only [Bool.cond_eq_ite] at h
    split at h
    · rename_i hc
      simp only [Bool.and_eq_true, Bool.not_eq_true'] at hc
      obtain ⟨hnd, hug⟩ := hc
      have hnd := nodupB_ok _ hnd
      have hug : ∀ q ∈ r.2.2, q ∉ o.2 ++ r.2.1 := by
        intro q hq hg
        have : (r.2.2.any fun o' => (o.2 ++ r.2.1).any fun q => Nat.beq q o') = true := List.any_eq_true.2 ⟨q, hq, List.any_eq_true.2 ⟨q, hg, by simp⟩⟩
        rw [hug] at this; cases this
      simp only [Option.some.injEq] at h
      have hnd' := hnd
      rw [List.nodup_append] at hnd'
      obtain ⟨Gs, k1, k2, k3⟩ := outs_ok hO s.ps xs 10000000 (Fs := Fs) kn h1 hnd'.1
      obtain ⟨Hs, j1, j2, j3⟩ := resM_ok hO (AvE := fun b => Av b ∨ Of φ ψ σ.objs r.2.2 b) (fun b hb => .inl hb) s.rs cs g1 h3 hnd'.2.1 (fun b hb => .inr hb)
      have hall : ∀ q, Some_ (Gs ++ Hs) q → Of φ ψ σ.objs (o.2 ++ r.2.1) q := by
        rintro q ⟨G, hG, hq⟩
        rcases List.mem_append.1 hG with hG | hG
        · exact Of_app.2 (.inl (k3 q ⟨G, hG, hq⟩))
        · exact Of_app.2 (.inr (j3 q ⟨G, hG, hq⟩))
      refine ⟨hd, retVal rv, run_results g2, rv, Gs, Hs, fun b => Av b ∨ Of φ ψ σ.objs r.2.2 b, rfl, ?_, ?_, ?_, fun q hq => ?_, fun b hb => ?_, fun b hb hno => hO.frame b hb (by rw [hfp]; exact hno), hO.grow⟩
      · rw [← h]
        exact outRep_conv s.ps (.inl fun b hb => .inl hb) o.1 k1
      · rw [← h]; exact j1
      · unfold Apart
        rw [List.pairwise_append]
        exact ⟨k2, j2, fun G hG H hH q hq hq' => Of_disj hO hnd (k3 q ⟨G, hG, hq⟩) (j3 q ⟨H, hH, hq'⟩)⟩
      · obtain ⟨o', x', _, hx, hq⟩ := hall q hq
        have := hO.own o' x' hx q hq
        rw [hfp] at this
        exact this
      · rcases hb with hb | hb
        · obtain ⟨e1, e2, e3⟩ := hO.av b hb
          rw [hfp] at e3
          refine ⟨e1, fun hq => ?_, e3.imp id Or.symm⟩
          obtain ⟨o', x', _, hx, hq⟩ := hall b hq
          exact e2 o' x' hx hq
        · obtain ⟨o', x', ho', hx, hb⟩ := hb
          obtain ⟨e1, e2⟩ := hO.own o' x' hx b hb
          rw [hfp] at e2
          refine ⟨e1, fun hq => ?_, .inr e2⟩
          obtain ⟨o2, x2, ho2, hx2, hq⟩ := hall b hq
          refine hO.disj o' x' o2 x2 hx hx2 ?_ b hb hq
          rintro rfl
          exact hug _ ho' ho2
    · cases h

/-- What is known of a datum that was read: numbers of their kind, lengths that can be. -/
def Ty.wf : (T : Ty) → T.D → Prop
  | .int k, n => inK k n
  | .str, s => List.length (α := UInt8) s ≤ maxLen
  | .sl _ e, xs => List.length (α := e.D) xs ≤ maxLen ∧ ∀ (i : Nat) (x : e.D), (xs : List e.D)[i]? = some x → e.wf x
  | .pair a b, x => a.wf x.1 ∧ b.wf x.2
  | .bool, _ => True
  | .op, _ => True
  | .unit, _ => True
termination_by structural T => T

def wfA : (ps : List PM) → Args ps → Prop
  | [], _ => True
  | .val T _ :: ps, x => T.wf x.1 ∧ wfA ps x.2
  | .mut T :: ps, x => T.wf x.1 ∧ wfA ps x.2
  | .ref T _ :: ps, x => T.wf x.1 ∧ wfA ps x.2
  | .fn _ _ :: ps, x => wfA ps x.2
  | .peek T :: ps, x => T.wf x.1 ∧ wfA ps x.2

theorem rdF_wf {w : World} {Av : Nat → Prop} : (T : Ty) → {x : T.D} → {cs : List Value} → rdF w Av T x cs → T.wf x
  | .int k, x, cs, h => h.2
  | .bool, x, cs, h => trivial
  | .str, x, cs, h => h.2
  | .op, x, cs, h => trivial
  | .unit, x, cs, h => trivial
  | .pair a b, x, cs, h => by
    obtain ⟨c1, c2, _, h1, h2⟩ := h
    exact ⟨rdF_wf a h1, rdF_wf b h2⟩
  | .sl t e, xs, cs, h => by
    rcases h with ⟨_, rfl⟩ | ⟨b, off, cap, sp, _, _, h2, h3⟩
    · exact ⟨Nat.zero_le _, fun i x hx => by simp at hx⟩
    · refine ⟨h2, fun i x hx => ?_⟩
      rcases h3 with rfl | ⟨_, _, l, _, _, h4⟩
      · simp at hx
      · exact rdF_wf e (h4 i x hx)

theorem rdO_wf {w : World} : (T : Ty) → {x : T.D} → {cs : List Value} → {F : Nat → Prop} → rdO w T x cs F → T.wf x
  | .int k, x, cs, F, h => h.2.1
  | .bool, x, cs, F, h => trivial
  | .str, x, cs, F, h => h.2.1
  | .op, x, cs, F, h => trivial
  | .unit, x, cs, F, h => trivial
  | .pair a b, x, cs, F, h => by
    obtain ⟨c1, c2, F1, F2, _, _, _, h1, h2⟩ := h
    exact ⟨rdO_wf a h1, rdO_wf b h2⟩
  | .sl t e, xs, cs, F, h => by
    rcases h with ⟨_, rfl, _⟩ | ⟨b, off, cap, c, E, fr, Fs, _, _, _, h2, _, _, _, _, _, h4⟩
    · exact ⟨Nat.zero_le _, fun i x hx => by simp at hx⟩
    · exact ⟨h2, fun i x hx => rdO_wf e (h4 i x hx)⟩

theorem rdM_wf {w : World} {Av : Nat → Prop} : (m : Md) → (T : Ty) → {x : T.D} → {cs : List Value} → {F : Nat → Prop} → rdM w Av m T x cs F → T.wf x
  | .f, T, x, cs, F, h => rdF_wf T h.1
  | .o, T, x, cs, F, h => rdO_wf T h
  | .pair m n, .pair a b, x, cs, F, h => by
    obtain ⟨c1, c2, F1, F2, _, _, _, h1, h2⟩ := h
    exact ⟨rdM_wf m a h1, rdM_wf n b h2⟩
  | .pair _ _, .int _, x, cs, F, h => rdF_wf _ h.2.1
  | .pair _ _, .bool, x, cs, F, h => rdF_wf .bool h.2.1
  | .pair _ _, .str, x, cs, F, h => rdF_wf .str h.2.1
  | .pair _ _, .op, x, cs, F, h => trivial
  | .pair _ _, .sl _ _, x, cs, F, h => rdF_wf _ h.2.1
  | .pair _ _, .unit, x, cs, F, h => trivial

theorem argRep_wf {P : Program} {w : World} {Av : Nat → Prop} : (ps : List PM) → {xs : Args ps} → {vs : List Value} → {Fs : List (Nat → Prop)} → argRep P w Av ps xs vs Fs → wfA ps xs
  | [], _, _, _, _ => trivial
  | .val T m :: ps, xs, vs, Fs, h => by
    obtain ⟨v, r, F, Gs, _, _, ⟨cs, _, h1⟩, h2⟩ := h
    exact ⟨rdM_wf m T h1, argRep_wf ps h2⟩
  | .mut T :: ps, xs, vs, Fs, h => by
    obtain ⟨v, r, F, Gs, _, _, ⟨cs, _, h1⟩, h2⟩ := h
    exact ⟨rdO_wf T h1, argRep_wf ps h2⟩
  | .ref T m :: ps, xs, vs, Fs, h => by
    obtain ⟨v, r, F, Gs, _, _, ⟨b, off, c, E, fr, F0, _, _, _, _, h1, _⟩, h2⟩ := h
    exact ⟨rdM_wf m T h1, argRep_wf ps h2⟩
  | .peek T :: ps, xs, vs, Fs, h => by
    obtain ⟨v, r, F, Gs, _, _, ⟨⟨b, off, l, _, _, _, _, h1⟩, _⟩, h2⟩ := h
    exact ⟨rdF_wf T h1, argRep_wf ps h2⟩
  | .fn _ _ :: ps, xs, vs, Fs, h => by
    obtain ⟨v, r, F, Gs, _, _, _, h2⟩ := h
    exact argRep_wf ps h2

/-- The contract of a function, from what the plain machine computes. -/
theorem fn_ok {P : Program} {E : Env} {f : FuncId} {fn : Func} {s : FS} (hE : EnvOk P E) (hm : P.follows .mixedOrders = true) (hnorm : ∀ (cx : Cx) h σ a w, cx.P = P → Inv cx σ a w → Inv cx (σ.norm h) a w) (hf : P.funcs[f]? = some fn)
    (H : List LC) (hl : ∀ c, fn.body = some c → LoopsOk E H c) (hrun : ∀ xs, wfA s.ps xs → s.pre xs = true → runFn E H fn s.ps s.rs xs = some (s.fn xs)) : Sound P f s := by
  intro w Av vs xs Fs hrep hap hAv hFs hpre
  have hr := hrun xs (argRep_wf s.ps hrep) hpre
  unfold runFn at hr
  cases hb : fn.body with
  | none => rw [hb] at hr; cases hr
  | some c =>
    rw [hb] at hr
    simp only [Bool.cond_eq_ite] at hr
    split at hr
    · rename_i hfit
      obtain ⟨φ, ψ, st, kn⟩ := mkArgs_ok (P := P) s.ps xs 10000000 hrep hap hfit (Nat.le_refl _) (fun _ => ⟨0, 0, (0, 0), [], [], .unit, undef, .unit⟩) (fun _ _ => False)
      let cx : Cx := ⟨P, w, Av, Some_ Fs, (mkArgs s.ps xs 10000000).objs.map (·.1), φ⟩
      have hin : ∀ q ∈ (mkArgs s.ps xs 10000000).objs.map (·.1), (find (mkArgs s.ps xs 10000000).objs q).isSome = true := by
        intro q hq
        obtain ⟨p, hp, rfl⟩ := List.mem_map.1 hq
        rw [find_of_mem st.nod (o := p.1) (a := p.2) hp]; rfl
      have hO : InvO cx φ ψ Av (mkArgs s.ps xs 10000000).objs w := by
        refine ⟨fun o x ho => st.rep _ (find_mem ho) _, fun o x o' x' ho ho' hne q hq hq' => st.dis _ (find_mem ho) _ (find_mem ho') hne q hq hq', fun o x ho q hq => ?_, fun o x ho q hq => hin q ((st.named _ (find_mem ho)).1 q hq),
          fun b hb => ⟨(hAv b hb).1, fun o x ho hq => (hAv b hb).2 (st.fp _ (find_mem ho) b hq), .inl hb⟩, fun _ h => h, Grew.rfl' _, fun _ _ _ => rfl, fun o ho => ⟨rfl, ?_⟩⟩
        · have := st.fp _ (find_mem ho) q hq
          exact ⟨hFs q this, .inl this⟩
        · obtain ⟨p, hp, rfl⟩ := List.mem_map.1 ho
          have := st.keys p hp
          unfold Rng at this
          omega
      have hlv := slots_len _ st.slots
      have hinit : init s.ps xs fn.ntmps = ⟨(mkArgs s.ps xs 10000000).cs ++ List.replicate (fn.ntmps - (mkArgs s.ps xs 10000000).cs.length) (.one .skip), (mkArgs s.ps xs 10000000).objs⟩ := rfl
      have hS : InvS P φ Av (init s.ps xs fn.ntmps) (vs.toArray ++ Array.replicate (fn.ntmps - vs.toArray.size) undef) w := by
        rw [hinit]
        refine ⟨?_, fun t x v hx hv => ?_, fun t x hx q hq => ?_⟩
        · simp [hlv]
        · show x.rep P φ w Av _ v
          have hx : ((mkArgs s.ps xs 10000000).cs ++ List.replicate (fn.ntmps - (mkArgs s.ps xs 10000000).cs.length) (.one .skip))[t]? = some x := hx
          rw [← Array.getElem?_toList, Array.toList_append] at hv
          rcases Nat.lt_or_ge t (mkArgs s.ps xs 10000000).cs.length with hlt | hge
          · rw [List.getElem?_append_left hlt] at hx
            rw [List.getElem?_append_left (by show _ < vs.length; omega)] at hv
            exact (slots_get _ st.slots hx hv).1 _
          · rw [List.getElem?_append_right hge, List.getElem?_replicate] at hx
            rw [List.getElem?_append_right (by show vs.length ≤ _; omega)] at hv
            split at hx
            · simp only [Option.some.injEq] at hx
              subst hx
              simp only [Array.toList_replicate, List.getElem?_replicate] at hv
              split at hv
              · simp only [Option.some.injEq] at hv
                exact hv.symm
              · cases hv
            · cases hx
        · have hx : ((mkArgs s.ps xs 10000000).cs ++ List.replicate (fn.ntmps - (mkArgs s.ps xs 10000000).cs.length) (.one .skip))[t]? = some x := hx
          rcases Nat.lt_or_ge t (mkArgs s.ps xs 10000000).cs.length with hlt | hge
          · rw [List.getElem?_append_left hlt] at hx
            have hv : vs[t]? = some vs[t] := List.getElem?_eq_getElem (by omega)
            exact hin q ((slots_get _ st.slots hx hv).2 q hq)
          · rw [List.getElem?_append_right hge, List.getElem?_replicate] at hx
            split at hx
            · simp only [Option.some.injEq] at hx
              subst hx; cases hq
            · cases hx
      refine calls_of_wp hf hb ?_
      refine exec_ok (cx := cx) hE hm (fun h σ a w hI => hnorm cx h σ a w rfl hI) c (hl c hb) hr ⟨rfl, φ, ψ, Av, hO, hS⟩ fun e σ' he a' w' hI' => ?_
      cases e with
      | exit id => cases he
      | normal => exact end_ok (cx := cx) hE hI' kn rfl he
      | ret => exact end_ok (cx := cx) hE hI' kn rfl he
    · cases hr
end
end Go.Aw
