import Derived.Test.YtpcdhadfpeojkaaGreatPqa
namespace Go.Aw.Pl
open Go.IntKind (wrap)
open List (length)
open Go Go.Aw
set_option linter.unusedVariables false
set_option linter.unusedSimpArgs false
set_option maxHeartbeats 1000000
namespace spec_GroupTick
abbrev S4 : Type := (Int × (Bool × (Int × zt17)))
abbrev O4 : Type := (Bool × zt17)
noncomputable def pre4 : S4 -> Bool := fun (x1, _, x3, x4, _, _, _, _, _, _, _, x12, x13, x14, _) => tickP x4 x1 && (groupS (0, (x12, (x13, (x14, ())))) && (decide (-1 <= x3) && (decide (x3 < (x4.2.1.length : Int)) && (decide (x3 < (x12.length : Int)) && (same (x12.take (x3 + 1).toNat) (x4.2.1.take (x3 + 1).toNat) && (decide (x13.length = x12.length) && same (x13.take (x3 + 1).toNat) (x4.2.2.1.take (x3 + 1).toNat)))))))
def mu4 : S4 -> Nat := fun (_, _, x3, _) => (x3 + 1).toNat
def Q4 (s : S4) (o : O4) : Prop := match s, o with
 | (x1, x2, x3, x4, _, _, _, _, _, x10, _, x12, x13, x14, _), (o1, o4, _, _, _, _, _, o10, _, o12, o13, o14, _) =>
  o4 = x4 /\ o10 = x10 /\ o14 = x14 /\ o1 = (x2 || tickG x1 (x4.2.2.1.take (x3 + 1).toNat)) /\ o12 = tickM x1 (x4.2.1.take (x3 + 1).toNat) (x4.2.2.1.take (x3 + 1).toNat) ++ x12.drop (x3 + 1).toNat /\ o13 = tickB x1 (x4.2.2.1.take (x3 + 1).toNat) ++ x13.drop (x3 + 1).toNat
noncomputable def raw4 (x1 : Int) (x2 : Bool) (x3 : Int) (x4 : Group) (x5 : Int) (x6 : Unit) (x7 : (List Int)) (x8 : (List Int)) (x9 : (List Int)) (x10 : Int) (x11 : Unit) (x12 : (List Int)) (x13 : (List Int)) (x14 : (List Int)) : Option ((Int × (Bool × (Int × zt17))) ⊕ (Bool × zt17)) :=
 if (decide ((0 : Int) <= x3)) = true then
 if (decide (x3 < ((length x4.2.2.1 : Nat) : Int))) = true then
 if (decide ((0 : Int) <= x3)) = true then
 if (decide (x3 < ((length x4.2.2.1 : Nat) : Int))) = true then
 if (decide ((List.getD x4.2.2.1 (Int.toNat x3) (0 : Int)) < x1)) = true then
 if (decide ((0 : Int) <= x3)) = true then
 if (decide (x3 < ((length x4.2.2.1 : Nat) : Int))) = true then
 if (decide ((50 : Int) < (wrap .i64 (x1 - (List.getD x4.2.2.1 (Int.toNat x3) (0 : Int)))))) = true then
 if (spec_l5Without.pre (x10, (x12, (x13, (x14, x11)))) x3) = true then
 letB (without (x10, (x12, (x13, (x14, x11)))) x3) fun v1 =>
 some (.inl (x1, (true, ((wrap .i64 (x3 - (1 : Int))), (x4, (x5, (x6, (x7, (x8, (x9, (v1.1, (v1.2.2.2.2, v1.2))))))))))))
 else
 none
 else
 if (decide ((0 : Int) <= x3)) = true then
 if (decide (x3 < ((length x4.2.2.1 : Nat) : Int))) = true then
 if (decide ((wrap .i64 (x1 - (List.getD x4.2.2.1 (Int.toNat x3) (0 : Int)))) < (0 : Int))) = true then
 if (spec_l5Without.pre (x10, (x12, (x13, (x14, x11)))) x3) = true then
 letB (without (x10, (x12, (x13, (x14, x11)))) x3) fun v2 =>
 some (.inl (x1, (true, ((wrap .i64 (x3 - (1 : Int))), (x4, (x5, (x6, (x7, (x8, (x9, (v2.1, (v2.2.2.2.2, v2.2))))))))))))
 else
 none
 else
 some (.inl (x1, (x2, ((wrap .i64 (x3 - (1 : Int))), (x4, (x5, (x6, (x7, (x8, (x9, (x10, (x11, (x12, (x13, (x14, ())))))))))))))))
 else
 none
 else
 none
 else
 none
 else
 none
 else
 some (.inl (x1, (x2, ((wrap .i64 (x3 - (1 : Int))), (x4, (x5, (x6, (x7, (x8, (x9, (x10, (x11, (x12, (x13, (x14, ())))))))))))))))
 else
 none
 else
 none
 else
 some (.inl (x1, (x2, ((wrap .i64 (x3 - (1 : Int))), (x4, (x5, (x6, (x7, (x8, (x9, (x10, (x11, (x12, (x13, (x14, ())))))))))))))))
 else
 some (.inr (x2, (x4, (x5, (x6, (x7, (x8, (x9, (x10, (x11, (x12, (x13, (x14, ())))))))))))))
theorem wp4 : ∀ s, pre4 s = true -> Wp ((fun (x : S4) => raw4 x.1 x.2.1 x.2.2.1 x.2.2.2.1 x.2.2.2.2.1 x.2.2.2.2.2.1 x.2.2.2.2.2.2.1 x.2.2.2.2.2.2.2.1 x.2.2.2.2.2.2.2.2.1 x.2.2.2.2.2.2.2.2.2.1 x.2.2.2.2.2.2.2.2.2.2.1 x.2.2.2.2.2.2.2.2.2.2.2.1 x.2.2.2.2.2.2.2.2.2.2.2.2.1 x.2.2.2.2.2.2.2.2.2.2.2.2.2.1) s) (Step pre4 mu4 Q4 s) := by
 rintro ⟨x1, x2, x3, x4, x5, ⟨⟩, x7, x8, x9, x10, ⟨⟩, x12, x13, x14, ⟨⟩⟩ hp
 simp only [pre4, Zb, Za, same_true] at hp
 obtain ⟨htp, hgs, h3, h4, h5, h6, h7, h8⟩ := hp
 obtain ⟨t1, t2, t3, t4, t5⟩ := tickP_iff.1 htp
 have hg := groupS_iff.1 hgs
 have ht := groupS_iff.1 t1
 simp only [] at hg
 show Wp (raw4 x1 x2 x3 x4 x5 () x7 x8 x9 x10 () x12 x13 x14) _
 unfold raw4
 by_cases h0 : 0 <= x3
 . have hn1 : x3.toNat < x4.2.1.length := by omega
   have hn2 : x3.toNat < x4.2.2.1.length := by omega
   have hn3 : x3.toNat < x12.length := by omega
   have hn4 : x3.toNat < x13.length := by omega
   have es : (x3 + 1).toNat = x3.toNat + 1 := by omega
   have e1 := w64 (n := x3 - 1) (by omega) (by omega)
   have em : (x3 - 1 + 1).toNat = x3.toNat := by omega
   have hb := t5 _ (List.getElem_mem hn2)
   have eb : x4.2.2.1.getD x3.toNat (0 : Int) = x4.2.2.1[x3.toNat] := getD_get hn2
   rw [es] at h6 h8
   have k12 : x12.take x3.toNat = x4.2.1.take x3.toNat := by
    have := congrArg (List.take x3.toNat) h6
    rwa [List.take_take, List.take_take, Nat.min_eq_left (by omega)] at this
   have k13 : x13.take x3.toNat = x4.2.2.1.take x3.toNat := by
    have := congrArg (List.take x3.toNat) h8
    rwa [List.take_take, List.take_take, Nat.min_eq_left (by omega)] at this
   have ew := w64 (n := x1 - x4.2.2.1[x3.toNat]) (by omega) (by omega)
   have hl : (x4.2.1.take x3.toNat).length = (x4.2.2.1.take x3.toNat).length := by rw [Zr, Zr]; omega
   -- kept
   have stay : ¬ x4.2.2.1[x3.toNat] < x1 - 50 -> Step pre4 mu4 Q4 (x1, x2, x3, x4, x5, (), x7, x8, x9, x10, (), x12, x13, x14, ()) (.inl (x1, (x2, ((wrap .i64 (x3 - 1)), (x4, (x5, ((), (x7, (x8, (x9, (x10, ((), (x12, (x13, (x14, ()))))))))))))))) := by
    intro hk
    rw [e1]
    refine ⟨?_, by simp only [mu4]; omega, ?_⟩
    . simp only [pre4, Zb, Za, same_true, em]
      exact ⟨htp, hgs, by omega, by omega, by omega, k12, h7, k13⟩
    . rintro ⟨o1, o4, o5, ⟨⟩, o7, o8, o9, o10, ⟨⟩, o12, o13, o14, ⟨⟩⟩ ⟨q1, q2, q3, q4, q5, q6⟩
      refine ⟨q1, q2, q3, ?_, ?_, ?_⟩
      . rw [q4, em, es, take_snoc hn2 0, eb]
        simp only [tickG, List.any_append, List.any_cons, List.any_nil, decide_eq_false hk, Bool.or_false]
      . rw [q5, em, es, take_snoc hn2 0, take_snoc hn1 0, tickM_snoc _ _ hl, eb, if_neg hk, Zk, Zn hn3]
        have : x12[x3.toNat] = x4.2.1.getD x3.toNat 0 := by
         have : (x12.take (x3.toNat + 1)).getD x3.toNat 0 = (x4.2.1.take (x3.toNat + 1)).getD x3.toNat 0 := by rw [h6]
         rw [take_snoc hn3 0, take_snoc hn1 0, k12, getD_get hn3] at this
         have hlen : (x4.2.1.take x3.toNat).length = x3.toNat := by rw [Zr]; omega
         simpa [List.getD_eq_getElem?_getD, List.getElem?_append_right, hlen] using this
        rw [this]; rfl
      . rw [q6, em, es, take_snoc hn2 0, tickB_snoc, eb, if_neg hk, Zk, Zn hn4]
        have : x13[x3.toNat] = x4.2.2.1[x3.toNat] := by
         have : (x13.take (x3.toNat + 1)).getD x3.toNat 0 = (x4.2.2.1.take (x3.toNat + 1)).getD x3.toNat 0 := by rw [h8]
         rw [take_snoc hn4 0, take_snoc hn2 0, k13, getD_get hn4] at this
         have hlen : (x4.2.2.1.take x3.toNat).length = x3.toNat := by rw [Zr]; omega
         rw [eb] at this
         rw [<- eb]
         simpa [List.getD_eq_getElem?_getD, List.getElem?_append_right, hlen] using this
        rw [this]; rfl
   -- taken out
   have take : x4.2.2.1[x3.toNat] < x1 - 50 -> Step pre4 mu4 Q4 (x1, x2, x3, x4, x5, (), x7, x8, x9, x10, (), x12, x13, x14, ()) (.inl (x1, (true, ((wrap .i64 (x3 - 1)), (x4, (x5, ((), (x7, (x8, (x9, ((without (x10, (x12, (x13, (x14, ())))) x3).1, ((without (x10, (x12, (x13, (x14, ())))) x3).2.2.2.2, (without (x10, (x12, (x13, (x14, ())))) x3).2)))))))))))) := by
    intro hk
    rw [e1]
    have gs' : groupS (without (0, (x12, (x13, (x14, ())))) x3) = true := groupS_without hgs
    refine ⟨?_, by simp only [mu4]; omega, ?_⟩
    . show pre4 (x1, (true, (x3 - 1, (x4, (x5, ((), (x7, (x8, (x9, (x10, ((), (x12.eraseIdx x3.toNat, (x13.eraseIdx x3.toNat, (x14, ())))))))))))))) = true
      simp only [pre4, Zb, Za, same_true, em]
      refine ⟨htp, gs', by omega, by omega, ?_, ?_, ?_, ?_⟩
      . rw [List.length_eraseIdx_of_lt hn3]; omega
      . rw [List.eraseIdx_eq_take_drop_succ, List.take_append_of_le_length (by rw [Zr]; omega), List.take_take, Nat.min_self]; exact k12
      . rw [List.length_eraseIdx_of_lt hn3, List.length_eraseIdx_of_lt hn4]; omega
      . rw [List.eraseIdx_eq_take_drop_succ, List.take_append_of_le_length (by rw [Zr]; omega), List.take_take, Nat.min_self]; exact k13
    . rintro ⟨o1, o4, o5, ⟨⟩, o7, o8, o9, o10, ⟨⟩, o12, o13, o14, ⟨⟩⟩ ⟨q1, q2, q3, q4, q5, q6⟩
      refine ⟨q1, q2, q3, ?_, ?_, ?_⟩
      . rw [q4, em, es, take_snoc hn2 0, eb]
        simp only [tickG, List.any_append, List.any_cons, List.any_nil, Zd hk, Bool.or_true, Bool.true_or]
      . rw [q5, em, es, take_snoc hn2 0, take_snoc hn1 0, tickM_snoc _ _ hl, eb, if_pos hk, List.append_nil]
        show _ ++ List.drop x3.toNat (x12.eraseIdx x3.toNat) = _
        rw [List.eraseIdx_eq_take_drop_succ, List.drop_append_of_le_length (by rw [Zr]; omega), List.drop_take, Nat.sub_self]; rfl
      . rw [q6, em, es, take_snoc hn2 0, tickB_snoc, eb, if_pos hk, List.append_nil]
        show _ ++ List.drop x3.toNat (x13.eraseIdx x3.toNat) = _
        rw [List.eraseIdx_eq_take_drop_succ, List.drop_append_of_le_length (by rw [Zr]; omega), List.drop_take, Nat.sub_self]; rfl
   have hpw : spec_l5Without.pre (x10, (x12, (x13, (x14, ())))) x3 = true := by
    simp only [spec_l5Without.pre, Zb, Za]
    exact ⟨hgs, h0, by omega⟩
   rw [eb]
   refine W_if (Zd h0) (W_if (Zd (by omega)) (W_if (Zd h0) (W_if (Zd (by omega)) (W_ite (fun c => ?_) fun c => ?_))))
   . rw [Za] at c
     refine W_if (Zd h0) (W_if (Zd (by omega)) (W_ite (fun d => ?_) fun d => ?_))
     . rw [Za, ew] at d
       exact W_if hpw (W_let (W_some (take (by omega))))
     . rw [Za, ew] at d
       exact W_if (Zd h0) (W_if (Zd (by omega)) (W_else (by rw [Za, ew]; omega) (W_some (stay (by omega)))))
   . rw [Za] at c
     exact W_some (stay (by omega))
 . refine W_else (by rw [Za]; exact h0) (W_some ?_)
   have : (x3 + 1).toNat = 0 := by omega
   simp only [Step, Q4, this, List.take_zero, List.drop_zero]
   exact ⟨trivial, trivial, trivial, by simp [tickG], rfl, rfl⟩
noncomputable def fn4 : S4 -> O4 := runF (fun (x : S4) => raw4 x.1 x.2.1 x.2.2.1 x.2.2.2.1 x.2.2.2.2.1 x.2.2.2.2.2.1 x.2.2.2.2.2.2.1 x.2.2.2.2.2.2.2.1 x.2.2.2.2.2.2.2.2.1 x.2.2.2.2.2.2.2.2.2.1 x.2.2.2.2.2.2.2.2.2.2.1 x.2.2.2.2.2.2.2.2.2.2.2.1 x.2.2.2.2.2.2.2.2.2.2.2.2.1 x.2.2.2.2.2.2.2.2.2.2.2.2.2.1) mu4
theorem ok4 (x1 : Int) (x2 : Bool) (x3 : Int) (x4 : Group) (x5 : Int) (x6 : Unit) (x7 x8 x9 : List Int) (x10 : Int) (x11 : Unit) (x12 x13 x14 : List Int) (hp : pre4 (x1, (x2, (x3, (x4, (x5, (x6, (x7, (x8, (x9, (x10, (x11, (x12, (x13, (x14, ())))))))))))))) = true) :
 Rounds pre4 mu4 fn4 (x1, (x2, (x3, (x4, (x5, (x6, (x7, (x8, (x9, (x10, (x11, (x12, (x13, (x14, ())))))))))))))) (raw4 x1 x2 x3 x4 x5 x6 x7 x8 x9 x10 x11 x12 x13 x14) := runF_ok wp4 hp
def pre (g : Group) (t : Int) : Bool := tickP g t
abbrev wf (x0 : Group) (x1 : Int) : Prop := wfA [(.val zk19 .f), (.val (.int .i64) .f)] (x0, (x1, ()))
noncomputable def raw (x0 : Group) (x1 : Int) : Option (Unit × (Group × Unit)) :=
 if (spec_l5Copy.pre x0) = true then
 letB (spec_l5Copy x0) fun v1 =>
 if (spec_GroupTick.pre4 (x1, (false, ((wrap .i64 (((length x0.2.1 : Nat) : Int) - (1 : Int))), (x0, ((0 : Int), ((), (([] : List Int), (([] : List Int), (([] : List Int), (v1.1, (v1.2.2.2.2, v1.2)))))))))))) = true then
 letB (spec_GroupTick.fn4 (x1, (false, ((wrap .i64 (((length x0.2.1 : Nat) : Int) - (1 : Int))), (x0, ((0 : Int), ((), (([] : List Int), (([] : List Int), (([] : List Int), (v1.1, (v1.2.2.2.2, v1.2)))))))))))) fun v2 =>
 if v2.1 = true then
 if (spec_l5Up.pre v2.2.1.1) = true then
 letB (upG v2.2.1.1) fun v3 =>
 some ((), ((v3, (v2.2.2.2.2.2.2.2.2.2.1, (v2.2.2.2.2.2.2.2.2.2.2.1, (v2.2.2.2.2.2.2.2.2.2.2.2.1, v2.2.2.2.2.2.2.2.2.1)))), ()))
 else
 none
 else
 some ((), ((v2.2.2.2.2.2.2.2.1, (v2.2.2.2.2.2.2.2.2.2.1, (v2.2.2.2.2.2.2.2.2.2.2.1, (v2.2.2.2.2.2.2.2.2.2.2.2.1, v2.2.2.2.2.2.2.2.2.1)))), ()))
 else
 none
 else
 none
theorem eq (x0 : Group) (x1 : Int) (_ : wf x0 x1) (hp : pre x0 x1 = true) : raw x0 x1 = some ((), (GroupTick x0 x1, ())) := by
 obtain ⟨t1, t2, t3, t4, t5⟩ := tickP_iff.1 (show tickP x0 x1 = true from hp)
 have hg := groupS_iff.1 t1
 refine W_eq ?_
 unfold raw
 have e1 := w64 (n := (x0.2.1.length : Int) - 1) (by omega) (by omega)
 have en : ((x0.2.1.length : Int) - 1 + 1).toNat = x0.2.1.length := by omega
 have hq : pre4 (x1, (false, ((wrap .i64 ((x0.2.1.length : Int) - 1)), (x0, ((0 : Int), ((), (([] : List Int), (([] : List Int), (([] : List Int), ((spec_l5Copy x0).1, ((spec_l5Copy x0).2.2.2.2, (spec_l5Copy x0).2))))))))))) = true := by
  rw [e1]
  show (tickP x0 x1 && (groupS (0, (x0.2.1, (x0.2.2.1, (x0.2.2.2.1, ())))) && (decide (-1 <= (x0.2.1.length : Int) - 1) && (decide ((x0.2.1.length : Int) - 1 < (x0.2.1.length : Int)) && (decide ((x0.2.1.length : Int) - 1 < (x0.2.1.length : Int)) && (same (x0.2.1.take ((x0.2.1.length : Int) - 1 + 1).toNat) (x0.2.1.take ((x0.2.1.length : Int) - 1 + 1).toNat) && (decide (x0.2.2.1.length = x0.2.1.length) && same (x0.2.2.1.take ((x0.2.1.length : Int) - 1 + 1).toNat) (x0.2.2.1.take ((x0.2.1.length : Int) - 1 + 1).toNat)))))))) = true
  simp only [same_self, Bool.and_true, Zb, Za, Bool.true_and]
  exact ⟨hp, t1, by omega, by omega, by omega, t2⟩
 refine W_if (show spec_l5Copy.pre x0 = true from t1) (W_let (W_if hq (W_fact (runF_q wp4 hq : Q4 _ (fn4 _)) ?_)))
 rintro ⟨o1, o4, o5, ⟨⟩, o7, o8, o9, o10, ⟨⟩, o12, o13, o14, ⟨⟩⟩ ⟨q1, q2, q3, q4, q5, q6⟩
 simp only [e1, en] at q4 q5 q6
 have q4 : o1 = tickG x1 x0.2.2.1 := by rw [q4, Bool.false_or, List.take_of_length_le (by omega)]
 have q5 : o12 = tickM x1 x0.2.1 x0.2.2.1 := by rw [q5, List.take_of_length_le (Nat.le_refl _), List.take_of_length_le (by omega)]; show _ ++ x0.2.1.drop _ = _; rw [Zt (Nat.le_refl _), List.append_nil]
 have q6 : o13 = tickB x1 x0.2.2.1 := by rw [q6, List.take_of_length_le (by omega)]; show _ ++ x0.2.2.1.drop _ = _; rw [Zt (by omega), List.append_nil]
 have q3 : o14 = x0.2.2.2.1 := q3
 have q2 : o10 = x0.1 := q2
 subst q2 q3 q4 q5 q6
 rw [q1]
 unfold GroupTick
 cases tickG x1 x0.2.2.1
 . exact W_else Bool.false_ne_true (W_some rfl)
 . exact W_if rfl (W_if (show spec_l5Up.pre _ = true from Zd (Int.le_refl _)) (W_some rfl))
end spec_GroupTick
abbrev spec_GroupTick := GroupTick
def insAt (who : Int) : List Int -> List Int -> Nat
 | m :: ms, _ :: bs => if m < who then insAt who ms bs + 1 else 0
 | _, _ => 0
theorem insAt_le {who : Int} : (ms bs : List Int) -> insAt who ms bs <= ms.length /\ insAt who ms bs <= bs.length
 | [], _ => ⟨Nat.zero_le _, Nat.zero_le _⟩
 | _ :: _, [] => ⟨Nat.zero_le _, Nat.zero_le _⟩
 | m :: ms, b :: bs => by
  have := insAt_le (who := who) ms bs
  simp only [insAt, Zg]
  split <;> omega
def insL (k : Nat) (x : Int) (l : List Int) : List Int := l.take k ++ x :: l.drop k
def GroupJoin (g : Group) (who t : Int) : Group :=
 if impl_within who 0 3 = true then
  if 0 <= atG g who then (if atG g who < (g.2.2.1.length : Int) then (g.1, (g.2.1, (g.2.2.1.modify (atG g who).toNat (fun _ => t), g.2.2.2))) else g)
  else (upG g.1, (insL (insAt who g.2.1 g.2.2.1) who g.2.1, (insL (insAt who g.2.1 g.2.2.1) t g.2.2.1, g.2.2.2)))
 else g
namespace spec_GroupJoin
abbrev S10 : Type := (Int × (Int × (Int × zt17)))
abbrev O10 : Type := (Int × (Int × (Int × zt17)))
def pre10 : S10 -> Bool := fun (_, _, x3, x4, _) => groupS x4 && (decide (0 <= x3) && (decide (x3 <= (x4.2.1.length : Int)) && decide (x3 <= (x4.2.2.1.length : Int))))
def fn10 : S10 -> O10 := fun (x1, x2, x3, x4, x5) => (x1, x2, x3 + (insAt x1 (x4.2.1.drop x3.toNat) (x4.2.2.1.drop x3.toNat) : Int), x4, x5)
def mu10 : S10 -> Nat := fun (_, _, x3, x4, _) => x4.2.1.length - x3.toNat
def pre (g : Group) (_ _ : Int) : Bool := groupS g
noncomputable def raw10 (x1 : Int) (x2 : Int) (x3 : Int) (x4 : Group) (x5 : Int) (x6 : Unit) (x7 : (List Int)) (x8 : (List Int)) (x9 : (List Int)) (x10 : Int) (x11 : Unit) (x12 : (List Int)) (x13 : (List Int)) (x14 : (List Int)) : Option ((Int × (Int × (Int × zt17))) ⊕ (Int × (Int × (Int × zt17)))) :=
 if (decide (x3 < ((length x4.2.1 : Nat) : Int))) = true then
 if (decide (x3 < ((length x4.2.2.1 : Nat) : Int))) = true then
 if (decide ((0 : Int) <= x3)) = true then
 if (decide (x3 < ((length x4.2.1 : Nat) : Int))) = true then
 if (decide ((List.getD x4.2.1 (Int.toNat x3) (0 : Int)) < x1)) = true then
 some (.inl (x1, (x2, ((wrap .i64 (x3 + (1 : Int))), (x4, (x5, (x6, (x7, (x8, (x9, (x10, (x11, (x12, (x13, (x14, ())))))))))))))))
 else
 some (.inr (x1, (x2, (x3, (x4, (x5, (x6, (x7, (x8, (x9, (x10, (x11, (x12, (x13, (x14, ())))))))))))))))
 else
 none
 else
 none
 else
 some (.inr (x1, (x2, (x3, (x4, (x5, (x6, (x7, (x8, (x9, (x10, (x11, (x12, (x13, (x14, ())))))))))))))))
 else
 some (.inr (x1, (x2, (x3, (x4, (x5, (x6, (x7, (x8, (x9, (x10, (x11, (x12, (x13, (x14, ())))))))))))))))
abbrev wf (x0 : Group) (x1 : Int) (x2 : Int) : Prop := wfA [(.val zk19 .f), (.val (.int .i64) .f), (.val (.int .i64) .f)] (x0, (x1, (x2, ())))
noncomputable def raw (x0 : Group) (x1 : Int) (x2 : Int) : Option (Unit × (Group × Unit)) :=
 if (spec_l5Copy.pre x0) = true then
 letB (impl_within x1 (0 : Int) (3 : Int)) fun v1 =>
 if (!v1) = true then
 letB (spec_l5Copy x0) fun v2 =>
 some ((), (v2, ()))
 else
 if (spec_l5At.pre x0 x1) = true then
 letB (atG x0 x1) fun v3 =>
 if (decide ((0 : Int) <= v3)) = true then
 letB (spec_l5Copy x0) fun v4 =>
 if (decide (v3 < ((length v4.2.2.1 : Nat) : Int))) = true then
 if (decide ((0 : Int) <= v3)) = true then
 if (decide (v3 < ((length v4.2.2.1 : Nat) : Int))) = true then
 some ((), ((v4.1, (v4.2.1, ((List.modify v4.2.2.1 (Int.toNat v3) (fun z => x2)), v4.2.2.2))), ()))
 else
 none
 else
 none
 else
 some ((), (v4, ()))
 else
 letB (spec_l5Copy x0) fun v5 =>
 if (spec_GroupJoin.pre10 (x1, (x2, ((0 : Int), (x0, ((0 : Int), ((), (([] : List Int), (([] : List Int), (([] : List Int), (v5.1, (v5.2.2.2.2, v5.2)))))))))))) = true then
 if (decide ((0 : Int) <= (0 : Int))) = true then
 letB (spec_GroupJoin.fn10 (x1, (x2, ((0 : Int), (x0, ((0 : Int), ((), (([] : List Int), (([] : List Int), (([] : List Int), (v5.1, (v5.2.2.2.2, v5.2)))))))))))) fun v6 =>
 if (decide ((0 : Int) <= v6.2.2.1)) = true then
 if (decide (v6.2.2.1 <= ((length v6.2.2.2.1.2.1 : Nat) : Int))) = true then
 if (decide (length ([] : List Int) + length (dropTake (Int.toNat (0 : Int)) (Int.toNat v6.2.2.1) v6.2.2.2.1.2.1) <= lim)) = true then
 if (decide (length (List.append ([] : List Int) (dropTake (Int.toNat (0 : Int)) (Int.toNat v6.2.2.1) v6.2.2.2.1.2.1)) + length (v6.1 :: ([] : List Int)) <= lim)) = true then
 if (decide ((0 : Int) <= v6.2.2.1)) = true then
 if (decide (v6.2.2.1 <= ((length v6.2.2.2.1.2.1 : Nat) : Int))) = true then
 if (decide (((length v6.2.2.2.1.2.1 : Nat) : Int) <= ((length v6.2.2.2.1.2.1 : Nat) : Int))) = true then
 if (decide (length (List.append (List.append ([] : List Int) (dropTake (Int.toNat (0 : Int)) (Int.toNat v6.2.2.1) v6.2.2.2.1.2.1)) (v6.1 :: ([] : List Int))) + length (dropTake (Int.toNat v6.2.2.1) (Int.toNat ((length v6.2.2.2.1.2.1 : Nat) : Int)) v6.2.2.2.1.2.1) <= lim)) = true then
 if (decide ((0 : Int) <= (0 : Int))) = true then
 if (decide ((0 : Int) <= v6.2.2.1)) = true then
 if (decide (v6.2.2.1 <= ((length v6.2.2.2.1.2.2.1 : Nat) : Int))) = true then
 if (decide (length ([] : List Int) + length (dropTake (Int.toNat (0 : Int)) (Int.toNat v6.2.2.1) v6.2.2.2.1.2.2.1) <= lim)) = true then
 if (decide (length (List.append ([] : List Int) (dropTake (Int.toNat (0 : Int)) (Int.toNat v6.2.2.1) v6.2.2.2.1.2.2.1)) + length (v6.2.1 :: ([] : List Int)) <= lim)) = true then
 if (decide ((0 : Int) <= v6.2.2.1)) = true then
 if (decide (v6.2.2.1 <= ((length v6.2.2.2.1.2.2.1 : Nat) : Int))) = true then
 if (decide (((length v6.2.2.2.1.2.2.1 : Nat) : Int) <= ((length v6.2.2.2.1.2.2.1 : Nat) : Int))) = true then
 if (decide (length (List.append (List.append ([] : List Int) (dropTake (Int.toNat (0 : Int)) (Int.toNat v6.2.2.1) v6.2.2.2.1.2.2.1)) (v6.2.1 :: ([] : List Int))) + length (dropTake (Int.toNat v6.2.2.1) (Int.toNat ((length v6.2.2.2.1.2.2.1 : Nat) : Int)) v6.2.2.2.1.2.2.1) <= lim)) = true then
 if (spec_l5Up.pre v6.2.2.2.1.1) = true then
 letB (upG v6.2.2.2.1.1) fun v7 =>
 some ((), ((v7, ((List.append (List.append (List.append ([] : List Int) (dropTake (Int.toNat (0 : Int)) (Int.toNat v6.2.2.1) v6.2.2.2.1.2.1)) (v6.1 :: ([] : List Int))) (dropTake (Int.toNat v6.2.2.1) (Int.toNat ((length v6.2.2.2.1.2.1 : Nat) : Int)) v6.2.2.2.1.2.1)), ((List.append (List.append (List.append ([] : List Int) (dropTake (Int.toNat (0 : Int)) (Int.toNat v6.2.2.1) v6.2.2.2.1.2.2.1)) (v6.2.1 :: ([] : List Int))) (dropTake (Int.toNat v6.2.2.1) (Int.toNat ((length v6.2.2.2.1.2.2.1 : Nat) : Int)) v6.2.2.2.1.2.2.1)), (v6.2.2.2.2.2.2.2.2.2.2.2.2.2.1, v6.2.2.2.2.2.2.2.2.2.2.1)))), ()))
 else
 none
 else
 none
 else
 none
 else
 none
 else
 none
 else
 none
 else
 none
 else
 none
 else
 none
 else
 none
 else
 none
 else
 none
 else
 none
 else
 none
 else
 none
 else
 none
 else
 none
 else
 none
 else
 none
 else
 none
 else
 none
 else
 none
theorem ok10 (x1 x2 x3 : Int) (x4 : Group) (x5 : Int) (x6 : Unit) (x7 x8 x9 : List Int) (x10 : Int) (x11 : Unit) (x12 x13 x14 : List Int) (hp : pre10 (x1, (x2, (x3, (x4, (x5, (x6, (x7, (x8, (x9, (x10, (x11, (x12, (x13, (x14, ())))))))))))))) = true) :
 Rounds pre10 mu10 fn10 (x1, (x2, (x3, (x4, (x5, (x6, (x7, (x8, (x9, (x10, (x11, (x12, (x13, (x14, ())))))))))))))) (raw10 x1 x2 x3 x4 x5 x6 x7 x8 x9 x10 x11 x12 x13 x14) := by
 simp only [pre10, Zb, Za] at hp
 obtain ⟨hs, h1, h2, h3⟩ := hp
 have hg := groupS_iff.1 hs
 have stop : (insAt x1 (x4.2.1.drop x3.toNat) (x4.2.2.1.drop x3.toNat)) = 0 -> Rounds pre10 mu10 fn10 (x1, (x2, (x3, (x4, (x5, (x6, (x7, (x8, (x9, (x10, (x11, (x12, (x13, (x14, ())))))))))))))) (some (.inr (x1, (x2, (x3, (x4, (x5, (x6, (x7, (x8, (x9, (x10, (x11, (x12, (x13, (x14, ())))))))))))))))) := by
  intro h
  simp only [Rounds, fn10, h]
  simp
 unfold raw10
 by_cases a1 : x3 < (x4.2.1.length : Int)
 . by_cases a2 : x3 < (x4.2.2.1.length : Int)
   . have hn : x3.toNat < x4.2.1.length := by omega
     have hn2 : x3.toNat < x4.2.2.1.length := by omega
     have e1 := Zn hn
     have e2 := Zn hn2
     refine R_if (Zd a1) (R_if (Zd a2) (R_if (Zd h1) (R_if (Zd a1) ?_)))
     rw [getD_get hn, w64 (n := x3 + 1) (by omega) (by omega)]
     by_cases c : x4.2.1[x3.toNat] < x1
     . refine R_if (Zd c) ⟨?_, by simp only [mu10]; omega, ?_⟩
       . simp only [pre10, Zb, Za]; exact ⟨hs, by omega, by omega, by omega⟩
       . simp only [fn10]
         rw [e1, e2, show (x3 + 1).toNat = x3.toNat + 1 by omega]
         simp only [insAt, c, if_true]
         rw [show x3 + 1 + ((insAt x1 (List.drop (x3.toNat + 1) x4.2.1) (List.drop (x3.toNat + 1) x4.2.2.1) : Nat) : Int) = x3 + ((insAt x1 (List.drop (x3.toNat + 1) x4.2.1) (List.drop (x3.toNat + 1) x4.2.2.1) + 1 : Nat) : Int) by omega]
     . refine R_else (by rw [Za]; exact c) (stop ?_)
       rw [e1, e2]
       simp only [insAt, c, if_false]
   . refine R_if (Zd a1) (R_else (by rw [Za]; exact a2) (stop ?_))
     rw [show x4.2.2.1.drop x3.toNat = [] from Zt (by omega)]
     cases x4.2.1.drop x3.toNat <;> rfl
 . refine R_else (by rw [Za]; exact a1) (stop ?_)
   rw [show x4.2.1.drop x3.toNat = [] from Zt (by omega)]
   rfl
theorem ins_parts {l : List Int} {x : Int} {k : Nat} : List.append (List.append (List.append ([] : List Int) (dropTake (Int.toNat 0) k l)) (x :: ([] : List Int))) (dropTake k ((l.length : Int)).toNat l) = insL k x l := by
 show (List.take (k - 0) (List.drop 0 l) ++ [x]) ++ List.take (((l.length : Int)).toNat - k) (List.drop k l) = _
 rw [List.take_of_length_le (l := List.drop k l) (by rw [Zs]; omega), Zk]; rfl
theorem eq (x0 : Group) (x1 x2 : Int) (_ : wf x0 x1 x2) (hp : pre x0 x1 x2 = true) : raw x0 x1 x2 = some ((), (GroupJoin x0 x1 x2, ())) := by
 have hs : groupS x0 = true := hp
 have hg := groupS_iff.1 hs
 unfold raw GroupJoin
 refine E_if (show spec_l5Copy.pre x0 = true from hs) (E_let ?_)
 cases hin : impl_within x1 0 3
 . rfl
 refine E_else (by decide) (E_if (show spec_l5At.pre x0 x1 = true from hs) (E_let ?_))
 rw [if_pos rfl]
 by_cases h0 : 0 <= atG x0 x1
 . have := findAt_lt (who := x1) x0.2.1 0 (Int.le_refl _) h0
   refine E_if (Zd h0) (E_let ?_)
   rw [if_pos h0]
   by_cases h1 : atG x0 x1 < (x0.2.2.1.length : Int)
   . rw [if_pos h1]
     exact E_if (Zd h1) (E_if (Zd h0) (E_if (Zd h1) rfl))
   . rw [if_neg h1]
     exact E_else (by rw [Za]; exact h1) rfl
 . rw [if_neg h0]
   refine E_else (by rw [Za]; exact h0) (E_let (E_if (show pre10 _ = true by simp only [pre10, Zb, Za]; exact ⟨hs, by omega, by omega, by omega⟩) (E_if (by decide) (E_let ?_))))
   have hl := insAt_le (who := x1) x0.2.1 x0.2.2.1
   generalize hk : insAt x1 x0.2.1 x0.2.2.1 = k at hl ⊢
   have hf : fn10 (x1, (x2, ((0 : Int), (x0, ((0 : Int), ((), (([] : List Int), (([] : List Int), (([] : List Int), ((spec_l5Copy x0).1, ((spec_l5Copy x0).2.2.2.2, (spec_l5Copy x0).2))))))))))) = (x1, (x2, ((k : Int), (x0, ((0 : Int), ((), (([] : List Int), (([] : List Int), (([] : List Int), (x0.1, ((), (x0.2.1, (x0.2.2.1, (x0.2.2.2.1, ())))))))))))))) := by
    simp only [fn10, Int.toNat_zero, List.drop_zero, hk, Int.zero_add]; rfl
   rw [hf]
   simp only []
   rw [ins_parts, ins_parts]
   refine E_if (Zd (by omega)) (E_if (Zd (by omega)) ?_)
   repeat (first | (with_reducible refine E_let ?_) | (with_reducible refine E_if ?hs ?_; case hs => (first | assumption | (simp only [Za, Bool.not_eq_true', Zv, Bool.not_eq_true, Zf, List.append_eq, Zg, Zh, dropTake, Zr, Zs, List.length_modify, List.length_eraseIdx, lim]; omega) | (simp only [Za]; omega))) | (with_reducible refine E_else ?hs ?_; case hs => (first | assumption | (simp only [Za, Bool.not_eq_true', Zv, Bool.not_eq_true, Zf, List.append_eq, Zg, Zh, dropTake, Zr, Zs, List.length_modify, List.length_eraseIdx, lim]; omega) | (simp only [Za]; omega))))
   refine E_if (show spec_l5Up.pre _ = true from Zd (Int.le_refl _)) (E_let ?_)
   rfl
end spec_GroupJoin
abbrev spec_GroupJoin := GroupJoin
def GroupLeave (g : Group) (who : Int) : Group := if 0 <= atG g who /\ impl_within who 0 3 = true then (upG g.1, (without g (atG g who)).2) else g
namespace spec_GroupLeave
def pre (g : Group) (_ : Int) : Bool := groupS g
abbrev wf (x0 : Group) (x1 : Int) : Prop := wfA [(.val zk19 .f), (.val (.int .i64) .f)] (x0, (x1, ()))
noncomputable def raw (x0 : Group) (x1 : Int) : Option (Unit × (Group × Unit)) :=
 if (spec_l5At.pre x0 x1) = true then
 letB (atG x0 x1) fun v1 =>
 if (decide (v1 < (0 : Int))) = true then
 if (spec_l5Copy.pre x0) = true then
 letB (spec_l5Copy x0) fun v2 =>
 some ((), (v2, ()))
 else
 none
 else
 letB (impl_within x1 (0 : Int) (3 : Int)) fun v3 =>
 if (!v3) = true then
 if (spec_l5Copy.pre x0) = true then
 letB (spec_l5Copy x0) fun v4 =>
 some ((), (v4, ()))
 else
 none
 else
 if (spec_l5Without.pre x0 v1) = true then
 if (spec_l5Up.pre x0.1) = true then
 letB (upG x0.1) fun v5 =>
 letB (without x0 v1) fun v6 =>
 some ((), ((v5, v6.2), ()))
 else
 none
 else
 none
 else
 none
theorem eq (x0 : Group) (x1 : Int) (_ : wf x0 x1) (hp : pre x0 x1 = true) : raw x0 x1 = some ((), (GroupLeave x0 x1, ())) := by
 have hs : groupS x0 = true := hp
 unfold raw
 refine E_if (show spec_l5At.pre x0 x1 = true from hs) (E_let ?_)
 by_cases h0 : 0 <= atG x0 x1
 . have := findAt_lt (who := x1) x0.2.1 0 (Int.le_refl _) h0
   refine E_else (by rw [Za]; omega) (E_let ?_)
   cases hin : impl_within x1 0 3
   . rw [show GroupLeave x0 x1 = x0 from if_neg (by rw [hin]; simp)]
     exact E_if rfl (E_if (show spec_l5Copy.pre x0 = true from hs) rfl)
   . rw [show GroupLeave x0 x1 = _ from if_pos ⟨h0, hin⟩]
     refine E_else (by decide) (E_if (show spec_l5Without.pre x0 _ = true by simp only [spec_l5Without.pre, Zb, Za]; exact ⟨hs, h0, by unfold atG at *; omega⟩) (E_if (show spec_l5Up.pre _ = true from Zd (Int.le_refl _)) rfl))
 . rw [show GroupLeave x0 x1 = x0 from if_neg (fun h => h0 h.1)]
   exact E_if (by rw [Za]; omega) (E_if (show spec_l5Copy.pre x0 = true from hs) rfl)
end spec_GroupLeave
abbrev spec_GroupLeave := GroupLeave
def OwnerOf (g : Group) (row : Int) : Int := if (g.2.1.length : Int) = 0 \/ row < 0 then -1 else g.2.1.getD (Int.tmod row (g.2.1.length : Int)).toNat 0
namespace spec_OwnerOf
def pre (g : Group) (_ : Int) : Bool := groupS g
abbrev wf (x0 : Group) (x1 : Int) : Prop := wfA [(.val zk19 .f), (.val (.int .i64) .f)] (x0, (x1, ()))
noncomputable def raw (x0 : Group) (x1 : Int) : Option (Unit × (Int × Unit)) :=
 if (decide (((length x0.2.1 : Nat) : Int) = (0 : Int))) = true then
 some ((), ((-1 : Int), ()))
 else
 if (decide (x1 < (0 : Int))) = true then
 some ((), ((-1 : Int), ()))
 else
 if (!(decide (((length x0.2.1 : Nat) : Int) = (0 : Int)))) = true then
 if (decide ((0 : Int) <= (Int.tmod x1 ((length x0.2.1 : Nat) : Int)))) = true then
 if (decide ((Int.tmod x1 ((length x0.2.1 : Nat) : Int)) < ((length x0.2.1 : Nat) : Int))) = true then
 some ((), ((List.getD x0.2.1 (Int.toNat (Int.tmod x1 ((length x0.2.1 : Nat) : Int))) (0 : Int)), ()))
 else
 none
 else
 none
 else
 none
theorem eq (x0 : Group) (x1 : Int) (_ : wf x0 x1) (_ : pre x0 x1 = true) : raw x0 x1 = some ((), (OwnerOf x0 x1, ())) := by
 unfold raw
 by_cases h1 : (x0.2.1.length : Int) = 0
 . rw [show OwnerOf x0 x1 = -1 from if_pos (Or.inl h1)]
   exact E_if (Zd h1) rfl
 by_cases h2 : x1 < 0
 . rw [show OwnerOf x0 x1 = -1 from if_pos (Or.inr h2)]
   exact E_else (by rw [Za]; exact h1) (E_if (Zd h2) rfl)
 rw [show OwnerOf x0 x1 = _ from if_neg (fun h => h.elim h1 h2)]
 have t1 := Int.tmod_nonneg (x0.2.1.length : Int) (show 0 <= x1 by omega)
 have t2 := Int.tmod_lt_of_pos x1 (show 0 < (x0.2.1.length : Int) by omega)
 exact E_else (by rw [Za]; exact h1) (E_else (by rw [Za]; exact h2) (E_if (by simp only [Bool.not_eq_true', Zv]; exact h1) (E_if (Zd t1) (E_if (Zd t2) rfl))))
end spec_OwnerOf
abbrev spec_OwnerOf := OwnerOf
def markOk (g : Group) (who gen row off : Int) : Bool := decide (gen = g.1) && (impl_within row 0 ((g.2.2.2.1.length : Int) - 1) && (decide (OwnerOf g row = who) && decide (g.2.2.2.1.getD row.toNat 0 <= off)))
def GroupMark (g : Group) (who gen row off : Int) : Group × Bool := if markOk g who gen row off = true then ((g.1, (g.2.1, (g.2.2.1, (g.2.2.2.1.modify row.toNat (fun _ => off), ())))), true) else (g, false)
namespace spec_GroupMark
def pre (g : Group) (_ _ _ _ : Int) : Bool := groupS g
abbrev wf (x0 : Group) (x1 : Int) (x2 : Int) (x3 : Int) (x4 : Int) : Prop := wfA [(.val zk19 .f), (.val (.int .i64) .f), (.val (.int .i64) .f), (.val (.int .i64) .f), (.val (.int .i64) .f)] (x0, (x1, (x2, (x3, (x4, ())))))
noncomputable def raw (x0 : Group) (x1 : Int) (x2 : Int) (x3 : Int) (x4 : Int) : Option (Unit × (Group × (Bool × Unit))) :=
 if (spec_l5Copy.pre x0) = true then
 if (!(decide (x2 = x0.1))) = true then
 letB (spec_l5Copy x0) fun v1 =>
 some ((), (v1, (false, ())))
 else
 letB (impl_within x3 (0 : Int) (wrap .i64 (((length x0.2.2.2.1 : Nat) : Int) - (1 : Int)))) fun v2 =>
 if (!v2) = true then
 letB (spec_l5Copy x0) fun v3 =>
 some ((), (v3, (false, ())))
 else
 if (spec_OwnerOf.pre x0 x3) = true then
 letB (OwnerOf x0 x3) fun v4 =>
 if (!(decide (v4 = x1))) = true then
 letB (spec_l5Copy x0) fun v5 =>
 some ((), (v5, (false, ())))
 else
 if (decide ((0 : Int) <= x3)) = true then
 if (decide (x3 < ((length x0.2.2.2.1 : Nat) : Int))) = true then
 if (decide (x4 < (List.getD x0.2.2.2.1 (Int.toNat x3) (0 : Int)))) = true then
 letB (spec_l5Copy x0) fun v6 =>
 some ((), (v6, (false, ())))
 else
 if (decide ((0 : Int) <= x3)) = true then
 letB (spec_l5Copy x0) fun v7 =>
 if (decide (x3 < ((length v7.2.2.2.1 : Nat) : Int))) = true then
 some ((), ((v7.1, (v7.2.1, (v7.2.2.1, ((List.modify v7.2.2.2.1 (Int.toNat x3) (fun z => x4)), v7.2.2.2.2)))), (true, ())))
 else
 none
 else
 none
 else
 none
 else
 none
 else
 none
 else
 none
theorem eq (x0 : Group) (x1 x2 x3 x4 : Int) (_ : wf x0 x1 x2 x3 x4) (hp : pre x0 x1 x2 x3 x4 = true) : raw x0 x1 x2 x3 x4 = some ((), ((GroupMark x0 x1 x2 x3 x4).1, ((GroupMark x0 x1 x2 x3 x4).2, ()))) := by
 have hs : groupS x0 = true := hp
 have hg := groupS_iff.1 hs
 unfold raw
 have no : markOk x0 x1 x2 x3 x4 = false -> GroupMark x0 x1 x2 x3 x4 = (x0, false) := fun h => if_neg (by rw [h]; simp)
 rw [w64 (n := (x0.2.2.2.1.length : Int) - 1) (by omega) (by omega)]
 refine E_if (show spec_l5Copy.pre x0 = true from hs) ?_
 by_cases h1 : x2 = x0.1
 case neg =>
  rw [no (by simp [markOk, h1]), decide_eq_false h1]; rfl
 rw [Zd h1]
 refine E_else (by decide) (E_let ?_)
 cases hin : impl_within x3 0 ((x0.2.2.2.1.length : Int) - 1)
 . rw [no (by simp [markOk, hin])]; rfl
 have hw := within_hi hin
 refine E_else (by decide) (E_if (show spec_OwnerOf.pre x0 x3 = true from hs) (E_let ?_))
 by_cases h2 : OwnerOf x0 x3 = x1
 case neg => rw [no (by simp [markOk, h2]), decide_eq_false h2]; rfl
 rw [Zd h2]
 refine E_else (by decide) (E_if (Zd hw.1) (E_if (Zd (by omega)) ?_))
 by_cases h3 : x4 < x0.2.2.2.1.getD x3.toNat 0
 . rw [no (by simp only [markOk, decide_eq_false (p := x0.2.2.2.1.getD x3.toNat 0 <= x4) (by omega), Bool.and_false])]
   exact E_if (Zd h3) rfl
 . rw [show GroupMark x0 x1 x2 x3 x4 = _ from if_pos (by simp only [markOk, Zd (p := x0.2.2.2.1.getD x3.toNat 0 <= x4) (by omega), Zd h1, Zd h2, hin]; rfl)]
   exact E_else (by rw [Za]; exact h3) (E_if (Zd hw.1) (E_let (E_if (Zd (show x3 < (x0.2.2.2.1.length : Int) by omega)) rfl)))
end spec_GroupMark
abbrev spec_GroupMark := GroupMark
theorem W_eq2 {β γ : Type} {m : Option (Unit × (β × (γ × Unit)))} {v : β × γ} (h : Wp m fun r => (r.2.1, r.2.2.1) = v) : m = some ((), (v.1, (v.2, ()))) := by
 obtain ⟨a, rfl, rfl⟩ := h
 rfl
def isMk (row who : Int) (m : Maker) : Bool := decide (m.1 = row) && decide (m.2.1 = who)
def MakerOf (xs : List Maker) (row who : Int) : Maker := (xs.find? (isMk row who)).getD (row, (who, ((0 : Int), ((-1 : Int), (([] : List Mark), ())))))
def mksS (xs : List Maker) : Bool := small xs && xs.all fun m => small m.2.2.2.2.1
theorem mksS_iff {xs : List Maker} : mksS xs = true ↔ xs.length <= 16777216 /\ ∀ m ∈ xs, m.2.2.2.2.1.length <= 16777216 := by
 simp only [mksS, Zb, small_iff, Zu]
namespace spec_MakerOf
abbrev S2 : Type := ((List Maker) × (Int × (Int × (Int × zt31))))
abbrev O2 : Type := (zt31 ⊕ (Int × (Int × zt31)))
def pre2 : S2 -> Bool := fun (x1, _, _, x4, _) => mksS x1 && (decide (0 <= x4) && decide (x4 <= (x1.length : Int)))
def mu2 : S2 -> Nat := fun (x1, _, _, x4, _) => x1.length - x4.toNat
def Q2 (s : S2) (o : O2) : Prop := match o with
 | .inl y => ((s.1.drop s.2.2.2.1.toNat).find? (isMk s.2.1 s.2.2.1)) = some (y.1, (y.2.1, (y.2.2.1, (y.2.2.2.1, (y.2.2.2.2.2.1, ())))))
 | .inr y => ((s.1.drop s.2.2.2.1.toNat).find? (isMk s.2.1 s.2.2.1)) = none /\ y.1 = s.2.1 /\ y.2.1 = s.2.2.1
noncomputable def raw2 (x1 : (List Maker)) (x2 : Int) (x3 : Int) (x4 : Int) (x5 : Int) (x6 : Int) (x7 : Int) (x8 : Int) (x9 : Unit) (x10 : (List Mark)) : Option (((List Maker) × (Int × (Int × (Int × zt31)))) ⊕ (zt31 ⊕ (Int × (Int × zt31)))) :=
 if (decide (x4 < ((length x1 : Nat) : Int))) = true then
 if (decide ((0 : Int) <= x4)) = true then
 if (decide (x4 < ((length x1 : Nat) : Int))) = true then
 if (decide ((List.getD x1 (Int.toNat x4) zd5).1 = x2)) = true then
 if (decide ((0 : Int) <= x4)) = true then
 if (decide (x4 < ((length x1 : Nat) : Int))) = true then
 if (decide ((List.getD x1 (Int.toNat x4) zd5).2.1 = x3)) = true then
 if (decide ((0 : Int) <= x4)) = true then
 if (decide (x4 < ((length x1 : Nat) : Int))) = true then
 if (spec_l4Copy.pre (List.getD x1 (Int.toNat x4) zd5)) = true then
 letB (spec_l4Copy (List.getD x1 (Int.toNat x4) zd5)) fun v1 =>
 some (.inr (.inl (v1.1, (v1.2.1, (v1.2.2.1, (v1.2.2.2.1, (v1.2.2.2.2.2, v1.2.2.2.2)))))))
 else
 none
 else
 none
 else
 none
 else
 some (.inl (x1, (x2, (x3, ((wrap .i64 (x4 + (1 : Int))), (x5, (x6, (x7, (x8, (x9, (x10, ())))))))))))
 else
 none
 else
 none
 else
 some (.inl (x1, (x2, (x3, ((wrap .i64 (x4 + (1 : Int))), (x5, (x6, (x7, (x8, (x9, (x10, ())))))))))))
 else
 none
 else
 none
 else
 some (.inr (.inr (x2, (x3, (x5, (x6, (x7, (x8, (x9, (x10, ()))))))))))
theorem wp2 : ∀ s, pre2 s = true -> Wp ((fun (x : S2) => raw2 x.1 x.2.1 x.2.2.1 x.2.2.2.1 x.2.2.2.2.1 x.2.2.2.2.2.1 x.2.2.2.2.2.2.1 x.2.2.2.2.2.2.2.1 x.2.2.2.2.2.2.2.2.1 x.2.2.2.2.2.2.2.2.2.1) s) (Step pre2 mu2 Q2 s) := by
 rintro ⟨x1, x2, x3, x4, x5, x6, x7, x8, ⟨⟩, x10, ⟨⟩⟩ hp
 simp only [pre2, Zb, Za] at hp
 obtain ⟨hs, h1, h2⟩ := hp
 have hm := mksS_iff.1 hs
 show Wp (raw2 x1 x2 x3 x4 x5 x6 x7 x8 () x10) _
 unfold raw2
 by_cases hlt : x4 < (x1.length : Int)
 . have hn : x4.toNat < x1.length := by omega
   have e1 := Zn hn
   rw [getD_get hn, w64 (n := x4 + 1) (by omega) (by omega)]
   have nxt : isMk x2 x3 x1[x4.toNat] = false -> Step pre2 mu2 Q2 (x1, x2, x3, x4, x5, x6, x7, x8, (), x10, ()) (.inl (x1, (x2, (x3, ((x4 + 1), (x5, (x6, (x7, (x8, ((), (x10, ()))))))))))) := by
    intro hk
    refine ⟨?_, by simp only [mu2]; omega, fun o ho => ?_⟩
    . simp only [pre2, Zb, Za]; exact ⟨hs, by omega, by omega⟩
    . have e : (x1.drop x4.toNat).find? (isMk x2 x3) = (x1.drop (x4 + 1).toNat).find? (isMk x2 x3) := by
       rw [e1, show (x4 + 1).toNat = x4.toNat + 1 by omega, List.find?_cons, hk]
      cases o with
      | inl y => exact e.trans ho
      | inr y => exact ⟨e.trans ho.1, ho.2⟩
   refine W_if (Zd hlt) (W_if (Zd h1) (W_if (Zd hlt) (W_ite (fun a => W_if (Zd h1) (W_if (Zd hlt) (W_ite (fun b => ?_) fun b => ?_))) fun a => ?_)))
   . rw [Za] at a b
     refine W_if (Zd h1) (W_if (Zd hlt) (W_if (show spec_l4Copy.pre _ = true from small_iff.2 (hm.2 _ (List.getElem_mem hn))) (W_let (W_some ?_))))
     show (x1.drop x4.toNat).find? (isMk x2 x3) = some x1[x4.toNat]
     rw [e1, List.find?_cons, show isMk x2 x3 x1[x4.toNat] = true by simp [isMk, a, b]]
   . rw [Za] at b
     exact W_some (nxt (by simp [isMk, b]))
   . rw [Za] at a
     exact W_some (nxt (by simp [isMk, a]))
 . refine W_else (by rw [Za]; exact hlt) (W_some ?_)
   refine ⟨?_, rfl, rfl⟩
   show (x1.drop x4.toNat).find? _ = none
   rw [Zt (by omega)]; rfl
noncomputable def fn2 : S2 -> O2 := runS (fun (x : S2) => raw2 x.1 x.2.1 x.2.2.1 x.2.2.2.1 x.2.2.2.2.1 x.2.2.2.2.2.1 x.2.2.2.2.2.2.1 x.2.2.2.2.2.2.2.1 x.2.2.2.2.2.2.2.2.1 x.2.2.2.2.2.2.2.2.2.1) mu2
theorem ok2 (x1 : List Maker) (x2 x3 x4 x5 x6 x7 x8 : Int) (x9 : Unit) (x10 : List Mark) (hp : pre2 (x1, (x2, (x3, (x4, (x5, (x6, (x7, (x8, (x9, (x10, ())))))))))) = true) :
 Rounds pre2 mu2 fn2 (x1, (x2, (x3, (x4, (x5, (x6, (x7, (x8, (x9, (x10, ())))))))))) (raw2 x1 x2 x3 x4 x5 x6 x7 x8 x9 x10) := runS_ok wp2 hp
def pre (xs : List Maker) (_ _ : Int) : Bool := mksS xs
abbrev wf (x0 : (List Maker)) (x1 : Int) (x2 : Int) : Prop := wfA [(.val (.sl 0 zk25) .f), (.val (.int .i64) .f), (.val (.int .i64) .f)] (x0, (x1, (x2, ())))
noncomputable def raw (x0 : (List Maker)) (x1 : Int) (x2 : Int) : Option (Unit × (Maker × Unit)) :=
 if (spec_MakerOf.pre2 (x0, (x1, (x2, zd41)))) = true then
  letB (spec_MakerOf.fn2 (x0, (x1, (x2, zd41)))) fun v1 =>
  match v1 with
  | .inl y =>
   some ((), ((y.1, (y.2.1, (y.2.2.1, (y.2.2.2.1, (y.2.2.2.2.2.1, y.2.2.2.2.1))))), ()))
  | .inr y =>
   some ((), ((y.1, (y.2.1, ((0 : Int), ((-1 : Int), (([] : List Mark), ()))))), ()))
 else
  none
theorem eq (x0 : List Maker) (x1 x2 : Int) (_ : wf x0 x1 x2) (hp : pre x0 x1 x2 = true) : raw x0 x1 x2 = some ((), (MakerOf x0 x1 x2, ())) := by
 have hs : mksS x0 = true := hp
 refine W_eq ?_
 unfold raw MakerOf
 have hq : pre2 (x0, (x1, (x2, zd41))) = true := by
  simp only [pre2, Zb, Za]; exact ⟨hs, by omega, by omega⟩
 refine W_if hq (W_fact (runS_q wp2 hq : Q2 _ (fn2 _)) fun o ho => ?_)
 cases o with
 | inl y =>
  have : x0.find? (isMk x1 x2) = some (y.1, (y.2.1, (y.2.2.1, (y.2.2.2.1, (y.2.2.2.2.2.1, ()))))) := ho
  rw [this]
  exact W_some rfl
 | inr y =>
  obtain ⟨h1, h2, h3⟩ := ho
  have : x0.find? (isMk x1 x2) = none := h1
  rw [this]
  simp only [] at h2 h3
  refine W_some ?_
  show (y.1, (y.2.1, _)) = _
  rw [h2, h3]; rfl
end spec_MakerOf
abbrev spec_MakerOf := MakerOf
def MakerAsk (m : Maker) (epoch seq : Int) : Int × Int :=
 if epoch < m.2.2.1 then (4, 0)
 else if m.2.2.1 < epoch then (if seq = 0 then (0, 0) else (3, 0))
 else if m.2.2.2.1 < seq then (if wrap .i64 (seq - 1) = m.2.2.2.1 then (0, 0) else (3, 0))
 else match m.2.2.2.2.1.find? (fun x => decide (x.1 = seq)) with
  | some x => (1, x.2.1)
  | none => (2, 0)
namespace spec_MakerAsk
abbrev S12 : Type := (Int × (Int × (Maker × Unit)))
abbrev O12 : Type := (Mark ⊕ Unit)
def pre12 : S12 -> Bool := fun (_, x2, x3, _) => small x3.2.2.2.2.1 && (decide (0 <= x2) && decide (x2 <= (x3.2.2.2.2.1.length : Int)))
def mu12 : S12 -> Nat := fun (_, x2, x3, _) => x3.2.2.2.2.1.length - x2.toNat
def fn12 : S12 -> O12 := fun (x1, x2, x3, _) => match (x3.2.2.2.2.1.drop x2.toNat).find? (fun x => decide (x.1 = x1)) with
 | some x => .inl (1, x.2)
 | none => .inr ()
noncomputable def raw12 (x1 : Int) (x2 : Int) (x3 : Maker) : Option ((Int × (Int × (Maker × Unit))) ⊕ (Mark ⊕ Unit)) :=
 if (decide (x2 < ((length x3.2.2.2.2.1 : Nat) : Int))) = true then
 if (decide ((0 : Int) <= x2)) = true then
 if (decide (x2 < ((length x3.2.2.2.2.1 : Nat) : Int))) = true then
 if (decide ((List.getD x3.2.2.2.2.1 (Int.toNat x2) zd28).1 = x1)) = true then
 if (decide ((0 : Int) <= x2)) = true then
 if (decide (x2 < ((length x3.2.2.2.2.1 : Nat) : Int))) = true then
 some (.inr (.inl ((1 : Int), (List.getD x3.2.2.2.2.1 (Int.toNat x2) zd28).2)))
 else
 none
 else
 none
 else
 some (.inl (x1, ((wrap .i64 (x2 + (1 : Int))), (x3, ()))))
 else
 none
 else
 none
 else
 some (.inr (.inr ()))
abbrev wf (x0 : Maker) (x1 : Int) (x2 : Int) : Prop := wfA [(.val zk25 .f), (.val (.int .i64) .f), (.val (.int .i64) .f)] (x0, (x1, (x2, ())))
noncomputable def raw (x0 : Maker) (x1 : Int) (x2 : Int) : Option (Unit × Mark) :=
 if (decide (x1 < x0.2.2.1)) = true then
  some ((), ((4 : Int), ((0 : Int), ())))
 else
  if (decide (x0.2.2.1 < x1)) = true then
   if (decide (x2 = (0 : Int))) = true then
    some ((), zd28)
   else
    some ((), ((3 : Int), ((0 : Int), ())))
  else
   if (decide (x0.2.2.2.1 < x2)) = true then
    if (decide ((wrap .i64 (x2 - (1 : Int))) = x0.2.2.2.1)) = true then
     some ((), zd28)
    else
     some ((), ((3 : Int), ((0 : Int), ())))
   else
    if (spec_MakerAsk.pre12 (x2, ((0 : Int), (x0, ())))) = true then
     letB (spec_MakerAsk.fn12 (x2, ((0 : Int), (x0, ())))) fun v1 =>
     match v1 with
     | .inl y =>
      some ((), y)
     | .inr y =>
      some ((), ((2 : Int), ((0 : Int), ())))
    else
     none
theorem ok12 (x1 x2 : Int) (x3 : Maker) (hp : pre12 (x1, (x2, (x3, ()))) = true) : Rounds pre12 mu12 fn12 (x1, (x2, (x3, ()))) (raw12 x1 x2 x3) := by
 simp only [pre12, Zb, Za] at hp
 obtain ⟨hs, h1, h2⟩ := hp
 have hs' := small_iff.1 hs
 unfold raw12
 by_cases hlt : x2 < (x3.2.2.2.2.1.length : Int)
 . have hn : x2.toNat < x3.2.2.2.2.1.length := by omega
   have e1 := Zn hn
   refine R_if (Zd hlt) (R_if (Zd h1) (R_if (Zd hlt) ?_))
   rw [getD_get hn, w64 (n := x2 + 1) (by omega) (by omega)]
   by_cases c : x3.2.2.2.2.1[x2.toNat].1 = x1
   . refine R_if (Zd c) (R_if (Zd h1) (R_if (Zd hlt) ?_))
     simp only [Rounds, fn12]
     rw [e1, List.find?_cons, Zd c]
   . refine R_else (by rw [Za]; exact c) ⟨?_, by simp only [mu12]; omega, ?_⟩
     . simp only [pre12, Zb, Za]; exact ⟨hs, by omega, by omega⟩
     . simp only [fn12]
       rw [e1, List.find?_cons, decide_eq_false c, show (x2 + 1).toNat = x2.toNat + 1 by omega]
 . refine R_else (by rw [Za]; exact hlt) ?_
   simp only [Rounds, fn12]
   rw [Zt (by omega)]; rfl
def pre (m : Maker) (_ _ : Int) : Bool := small m.2.2.2.2.1
theorem eq (x0 : Maker) (x1 x2 : Int) (_ : wf x0 x1 x2) (hp : pre x0 x1 x2 = true) : raw x0 x1 x2 = some ((), ((MakerAsk x0 x1 x2).1, ((MakerAsk x0 x1 x2).2, ()))) := by
 have hs : small x0.2.2.2.2.1 = true := hp
 have q : pre12 (x2, ((0 : Int), (x0, ()))) = true := by
  simp only [pre12, Zb, Za]; exact ⟨hs, by omega, by omega⟩
 refine W_eq2 ?_
 unfold raw MakerAsk
 by_cases c1 : x1 < x0.2.2.1
 . rw [if_pos (Zd c1), if_pos c1]; exact W_some rfl
 rw [if_neg (by rw [Za]; exact c1), if_neg c1]
 by_cases c2 : x0.2.2.1 < x1
 . rw [if_pos (Zd c2), if_pos c2]
   by_cases c3 : x2 = 0
   . rw [if_pos (Zd c3), if_pos c3]; exact W_some rfl
   . rw [if_neg (by rw [Za]; exact c3), if_neg c3]; exact W_some rfl
 rw [if_neg (by rw [Za]; exact c2), if_neg c2]
 by_cases c4 : x0.2.2.2.1 < x2
 . rw [if_pos (Zd c4), if_pos c4]
   by_cases c5 : wrap .i64 (x2 - 1) = x0.2.2.2.1
   . rw [if_pos (Zd c5), if_pos c5]; exact W_some rfl
   . rw [if_neg (by rw [Za]; exact c5), if_neg c5]; exact W_some rfl
 rw [if_neg (by rw [Za]; exact c4), if_neg c4]
 refine W_if q (W_let ?_)
 simp only [fn12, Int.toNat_zero, List.drop_zero]
 cases x0.2.2.2.2.1.find? (fun x => decide (x.1 = x2)) <;> exact W_some rfl
end spec_MakerAsk
abbrev spec_MakerAsk := MakerAsk
def maxI (a b : Int) : Int := if b < a then a else b
namespace spec_l1Max
abbrev wf (x0 : Int) (x1 : Int) : Prop := wfA [(.val (.int .i64) .f), (.val (.int .i64) .f)] (x0, (x1, ()))
noncomputable def raw (x0 : Int) (x1 : Int) : Option (Unit × (Int × Unit)) :=
 if (decide (x1 < x0)) = true then
 some ((), (x0, ()))
 else
 some ((), (x1, ()))
theorem eq (x0 x1 : Int) (_ : wf x0 x1) : raw x0 x1 = some ((), (maxI x0 x1, ())) := by
 unfold raw maxI
 by_cases h : x1 < x0
 . rw [if_pos (Zd h), if_pos h]
 . rw [if_neg (by rw [Za]; exact h), if_neg h]
end spec_l1Max
abbrev spec_l1Max := maxI
def lastN (w : Int) (l : List Mark) : List Mark := l.drop (l.length - (maxI w 0).toNat)
def MakerPut (m : Maker) (w epoch seq off : Int) : Maker :=
 if (MakerAsk m epoch seq).1 = 0 then (m.1, (m.2.1, (epoch, (seq, (lastN w ((if m.2.2.1 < epoch then [] else m.2.2.2.2.1) ++ [(seq, (off, ()))]), ()))))) else m
theorem drop_parts {α : Type} {l : List α} {k : Int} (h0 : 0 <= k) : List.append ([] : List α) (dropTake k.toNat ((l.length : Int)).toNat l) = l.drop k.toNat := by
 show List.take (((l.length : Int)).toNat - k.toNat) (List.drop k.toNat l) = _
 exact List.take_of_length_le (by rw [Zs]; omega)
namespace spec_MakerPut
def pre (m : Maker) (_ _ _ _ : Int) : Bool := small m.2.2.2.2.1
abbrev wf (x0 : Maker) (x1 : Int) (x2 : Int) (x3 : Int) (x4 : Int) : Prop := wfA [(.val zk25 .f), (.val (.int .i64) .f), (.val (.int .i64) .f), (.val (.int .i64) .f), (.val (.int .i64) .f)] (x0, (x1, (x2, (x3, (x4, ())))))
noncomputable def raw (x0 : Maker) (x1 : Int) (x2 : Int) (x3 : Int) (x4 : Int) : Option (Unit × (Maker × Unit)) :=
 if (spec_l4Copy.pre x0) = true then
 if (spec_MakerAsk.pre x0 x2 x3) = true then
 letB (MakerAsk x0 x2 x3) fun v1 =>
 if (!(decide (v1.1 = (0 : Int)))) = true then
 letB (spec_l4Copy x0) fun v2 =>
 some ((), (v2, ()))
 else
 if (decide (x0.2.2.1 < x2)) = true then
 if (decide (length ([] : List Mark) + length ((x3, (x4, ())) :: ([] : List Mark)) <= lim)) = true then
 letB (maxI x1 (0 : Int)) fun v3 =>
 if (decide (v3 < ((length (List.append ([] : List Mark) ((x3, (x4, ())) :: ([] : List Mark))) : Nat) : Int))) = true then
 if (decide ((0 : Int) <= (wrap .i64 (((length (List.append ([] : List Mark) ((x3, (x4, ())) :: ([] : List Mark))) : Nat) : Int) - v3)))) = true then
 if (decide ((wrap .i64 (((length (List.append ([] : List Mark) ((x3, (x4, ())) :: ([] : List Mark))) : Nat) : Int) - v3)) <= ((length (List.append ([] : List Mark) ((x3, (x4, ())) :: ([] : List Mark))) : Nat) : Int))) = true then
 if (decide (((length (List.append ([] : List Mark) ((x3, (x4, ())) :: ([] : List Mark))) : Nat) : Int) <= ((length (List.append ([] : List Mark) ((x3, (x4, ())) :: ([] : List Mark))) : Nat) : Int))) = true then
 if (decide (length ([] : List Mark) + length (dropTake (Int.toNat (wrap .i64 (((length (List.append ([] : List Mark) ((x3, (x4, ())) :: ([] : List Mark))) : Nat) : Int) - v3))) (Int.toNat ((length (List.append ([] : List Mark) ((x3, (x4, ())) :: ([] : List Mark))) : Nat) : Int)) (List.append ([] : List Mark) ((x3, (x4, ())) :: ([] : List Mark)))) <= lim)) = true then
 letB (spec_l4Copy x0) fun v4 =>
 some ((), ((v4.1, (v4.2.1, (x2, (x3, ((List.append ([] : List Mark) (dropTake (Int.toNat (wrap .i64 (((length (List.append ([] : List Mark) ((x3, (x4, ())) :: ([] : List Mark))) : Nat) : Int) - v3))) (Int.toNat ((length (List.append ([] : List Mark) ((x3, (x4, ())) :: ([] : List Mark))) : Nat) : Int)) (List.append ([] : List Mark) ((x3, (x4, ())) :: ([] : List Mark))))), v4.2.2.2.2.2))))), ()))
 else
 none
 else
 none
 else
 none
 else
 none
 else
 letB (spec_l4Copy x0) fun v5 =>
 some ((), ((v5.1, (v5.2.1, (x2, (x3, ((List.append ([] : List Mark) ((x3, (x4, ())) :: ([] : List Mark))), v5.2.2.2.2.2))))), ()))
 else
 none
 else
 letB (spec_l4Copy x0) fun v6 =>
 if (decide (length v6.2.2.2.2.1 + length ((x3, (x4, ())) :: ([] : List Mark)) <= lim)) = true then
 letB (maxI x1 (0 : Int)) fun v7 =>
 if (decide (v7 < ((length (List.append v6.2.2.2.2.1 ((x3, (x4, ())) :: ([] : List Mark))) : Nat) : Int))) = true then
 if (decide ((0 : Int) <= (wrap .i64 (((length (List.append v6.2.2.2.2.1 ((x3, (x4, ())) :: ([] : List Mark))) : Nat) : Int) - v7)))) = true then
 if (decide ((wrap .i64 (((length (List.append v6.2.2.2.2.1 ((x3, (x4, ())) :: ([] : List Mark))) : Nat) : Int) - v7)) <= ((length (List.append v6.2.2.2.2.1 ((x3, (x4, ())) :: ([] : List Mark))) : Nat) : Int))) = true then
 if (decide (((length (List.append v6.2.2.2.2.1 ((x3, (x4, ())) :: ([] : List Mark))) : Nat) : Int) <= ((length (List.append v6.2.2.2.2.1 ((x3, (x4, ())) :: ([] : List Mark))) : Nat) : Int))) = true then
 if (decide (length ([] : List Mark) + length (dropTake (Int.toNat (wrap .i64 (((length (List.append v6.2.2.2.2.1 ((x3, (x4, ())) :: ([] : List Mark))) : Nat) : Int) - v7))) (Int.toNat ((length (List.append v6.2.2.2.2.1 ((x3, (x4, ())) :: ([] : List Mark))) : Nat) : Int)) (List.append v6.2.2.2.2.1 ((x3, (x4, ())) :: ([] : List Mark)))) <= lim)) = true then
 some ((), ((v6.1, (v6.2.1, (x2, (x3, ((List.append ([] : List Mark) (dropTake (Int.toNat (wrap .i64 (((length (List.append v6.2.2.2.2.1 ((x3, (x4, ())) :: ([] : List Mark))) : Nat) : Int) - v7))) (Int.toNat ((length (List.append v6.2.2.2.2.1 ((x3, (x4, ())) :: ([] : List Mark))) : Nat) : Int)) (List.append v6.2.2.2.2.1 ((x3, (x4, ())) :: ([] : List Mark))))), v6.2.2.2.2.2))))), ()))
 else
 none
 else
 none
 else
 none
 else
 none
 else
 some ((), ((v6.1, (v6.2.1, (x2, (x3, ((List.append v6.2.2.2.2.1 ((x3, (x4, ())) :: ([] : List Mark))), v6.2.2.2.2.2))))), ()))
 else
 none
 else
 none
 else
 none
theorem eq (x0 : Maker) (x1 x2 x3 x4 : Int) (_ : wf x0 x1 x2 x3 x4) (hp : pre x0 x1 x2 x3 x4 = true) : raw x0 x1 x2 x3 x4 = some ((), (MakerPut x0 x1 x2 x3 x4, ())) := by
 have hs : small x0.2.2.2.2.1 = true := hp
 have hs' := small_iff.1 hs
 have fin : ∀ l : List Mark, l.length <= 16777217 ->
  (¬ maxI x1 0 < (l.length : Int) -> lastN x1 l = l) /\ (maxI x1 0 < (l.length : Int) -> wrap .i64 ((l.length : Int) - maxI x1 0) = (l.length : Int) - maxI x1 0 /\ 0 <= (l.length : Int) - maxI x1 0 /\ (l.length : Int) - maxI x1 0 <= (l.length : Int) /\ List.append ([] : List Mark) (dropTake ((l.length : Int) - maxI x1 0).toNat ((l.length : Int)).toNat l) = lastN x1 l) := by
  intro l hl
  have hm : 0 <= maxI x1 0 := by unfold maxI; split <;> omega
  refine ⟨fun h => ?_, fun h => ⟨w64 (by omega) (by omega), by omega, by omega, ?_⟩⟩
  . unfold lastN
    rw [show l.length - (maxI x1 0).toNat = 0 by omega, List.drop_zero]
  . rw [drop_parts (by omega)]
    unfold lastN
    rw [show ((l.length : Int) - maxI x1 0).toNat = l.length - (maxI x1 0).toNat by omega]
 unfold raw
 rw [show spec_l4Copy x0 = x0 from rfl]
 refine E_if (show spec_l4Copy.pre x0 = true from hs) (E_if (show spec_MakerAsk.pre x0 x2 x3 = true from hs) (E_let ?_))
 by_cases c1 : (MakerAsk x0 x2 x3).1 = 0
 case neg =>
  rw [show MakerPut x0 x1 x2 x3 x4 = x0 from if_neg c1]
  exact E_if (by simp only [Bool.not_eq_true', Zv]; exact c1) rfl
 refine E_else (by simp only [Bool.not_eq_true', Zv, Decidable.not_not]; exact c1) ?_
 rw [show MakerPut x0 x1 x2 x3 x4 = _ from if_pos c1]
 by_cases c2 : x0.2.2.1 < x2
 . rw [if_pos c2]
   refine E_if (Zd c2) (E_if (by simp only [Za, Zg, Zh, lim]; omega) (E_let ?_))
   have hf := fin (List.append ([] : List Mark) [(x3, (x4, ()))]) (by simp)
   have hll : (List.append ([] : List Mark) [(x3, (x4, ()))]).length <= 16777217 := by simp
   show _ = some ((), ((x0.1, (x0.2.1, (x2, (x3, (lastN x1 (List.append ([] : List Mark) [(x3, (x4, ()))]), ()))))), ()))
   generalize List.append ([] : List Mark) [(x3, (x4, ()))] = l at *
   by_cases c3 : maxI x1 0 < (l.length : Int)
   . obtain ⟨f1, f2, f3, f4⟩ := hf.2 c3
     rw [f1, <- f4]
     exact E_if (Zd c3) (E_if (Zd f2) (E_if (Zd f3) (E_if (Zd (Int.le_refl _)) (E_if (by simp only [Za, Zh, dropTake, Zr, Zs, lim]; omega) rfl))))
   . rw [hf.1 c3]
     exact E_else (by rw [Za]; exact c3) rfl
 . rw [if_neg c2]
   refine E_else (by rw [Za]; exact c2) (E_let (E_if (by simp only [Za, Zg, Zh, lim]; exact Nat.le_trans (Nat.add_le_add_right hs' 1) (by decide)) (E_let ?_)))
   have hll : (List.append x0.2.2.2.2.1 [(x3, (x4, ()))]).length <= 16777217 := by rw [List.append_eq, Zf, Zg, Zh]; omega
   have hf := fin (List.append x0.2.2.2.2.1 [(x3, (x4, ()))]) hll
   show _ = some ((), ((x0.1, (x0.2.1, (x2, (x3, (lastN x1 (List.append x0.2.2.2.2.1 [(x3, (x4, ()))]), ()))))), ()))
   generalize List.append x0.2.2.2.2.1 [(x3, (x4, ()))] = l at *
   by_cases c3 : maxI x1 0 < (l.length : Int)
   . obtain ⟨f1, f2, f3, f4⟩ := hf.2 c3
     rw [f1, <- f4]
     exact E_if (Zd c3) (E_if (Zd f2) (E_if (Zd f3) (E_if (Zd (Int.le_refl _)) (E_if (by simp only [Za, Zh, dropTake, Zr, Zs, lim]; omega) rfl))))
   . rw [hf.1 c3]
     exact E_else (by rw [Za]; exact c3) rfl
end spec_MakerPut
abbrev spec_MakerPut := MakerPut
def laterM (x m : Maker) : Bool := decide (m.1 < x.1) || (decide (x.1 = m.1) && decide (m.2.1 < x.2.1))
def setMk (m : Maker) : Bool -> List Maker -> List Maker
 | p, [] => cond p [] [m]
 | p, x :: r => cond (isMk m.1 m.2.1 x) (cond p (setMk m p r) (m :: setMk m true r)) (cond (!p && laterM x m) (m :: x :: setMk m true r) (x :: setMk m p r))
def MakerSet (xs : List Maker) (m : Maker) : List Maker := setMk m false xs
namespace spec_MakerSet
abbrev S4 : Type := ((List Maker) × (Bool × (Int × (Maker × ((List Maker) × Unit)))))
abbrev O4 : Type := (Bool × (Maker × ((List Maker) × Unit)))
def pre4 : S4 -> Bool := fun (x1, _, x3, x4, x5, _) => mksS x1 && (small x4.2.2.2.2.1 && (decide (0 <= x3) && (decide (x3 <= (x1.length : Int)) && decide (x5.length <= 2 * x3.toNat))))
def mu4 : S4 -> Nat := fun (x1, _, x3, _) => x1.length - x3.toNat
def Q4 (s : S4) (o : O4) : Prop := o.2.1 = s.2.2.2.1 /\ o.2.2.1 ++ cond o.1 [] [s.2.2.2.1] = s.2.2.2.2.1 ++ setMk s.2.2.2.1 s.2.1 (s.1.drop s.2.2.1.toNat) /\ o.2.2.1.length <= 2 * s.1.length
noncomputable def raw4 (x1 : (List Maker)) (x2 : Bool) (x3 : Int) (x4 : Maker) (x5 : (List Maker)) : Option (((List Maker) × (Bool × (Int × (Maker × ((List Maker) × Unit))))) ⊕ (Bool × (Maker × ((List Maker) × Unit)))) :=
 if (decide (x3 < ((length x1 : Nat) : Int))) = true then
 if (decide ((0 : Int) <= x3)) = true then
 if (decide (x3 < ((length x1 : Nat) : Int))) = true then
 if (decide ((List.getD x1 (Int.toNat x3) zd5).1 = x4.1)) = true then
 if (decide ((List.getD x1 (Int.toNat x3) zd5).2.1 = x4.2.1)) = true then
 if (!x2) = true then
 if (spec_l4Copy.pre x4) = true then
 letB (spec_l4Copy x4) fun v1 =>
 if (decide (length x5 + length (v1 :: ([] : List Maker)) <= lim)) = true then
 some (.inl (x1, (true, ((wrap .i64 (x3 + (1 : Int))), (x4, ((List.append x5 (v1 :: ([] : List Maker))), ()))))))
 else
 none
 else
 none
 else
 some (.inl (x1, (x2, ((wrap .i64 (x3 + (1 : Int))), (x4, (x5, ()))))))
 else
 if (!x2) = true then
 if (decide (x4.1 < (List.getD x1 (Int.toNat x3) zd5).1)) = true then
 if (spec_l4Copy.pre x4) = true then
 letB (spec_l4Copy x4) fun v2 =>
 if (decide (length x5 + length (v2 :: ([] : List Maker)) <= lim)) = true then
 if (spec_l4Copy.pre (List.getD x1 (Int.toNat x3) zd5)) = true then
 letB (spec_l4Copy (List.getD x1 (Int.toNat x3) zd5)) fun v3 =>
 if (decide (length (List.append x5 (v2 :: ([] : List Maker))) + length (v3 :: ([] : List Maker)) <= lim)) = true then
 some (.inl (x1, (true, ((wrap .i64 (x3 + (1 : Int))), (x4, ((List.append (List.append x5 (v2 :: ([] : List Maker))) (v3 :: ([] : List Maker))), ()))))))
 else
 none
 else
 none
 else
 none
 else
 none
 else
 if (decide ((List.getD x1 (Int.toNat x3) zd5).1 = x4.1)) = true then
 if (decide (x4.2.1 < (List.getD x1 (Int.toNat x3) zd5).2.1)) = true then
 if (spec_l4Copy.pre x4) = true then
 letB (spec_l4Copy x4) fun v4 =>
 if (decide (length x5 + length (v4 :: ([] : List Maker)) <= lim)) = true then
 if (spec_l4Copy.pre (List.getD x1 (Int.toNat x3) zd5)) = true then
 letB (spec_l4Copy (List.getD x1 (Int.toNat x3) zd5)) fun v5 =>
 if (decide (length (List.append x5 (v4 :: ([] : List Maker))) + length (v5 :: ([] : List Maker)) <= lim)) = true then
 some (.inl (x1, (true, ((wrap .i64 (x3 + (1 : Int))), (x4, ((List.append (List.append x5 (v4 :: ([] : List Maker))) (v5 :: ([] : List Maker))), ()))))))
 else
 none
 else
 none
 else
 none
 else
 none
 else
 if (spec_l4Copy.pre (List.getD x1 (Int.toNat x3) zd5)) = true then
 letB (spec_l4Copy (List.getD x1 (Int.toNat x3) zd5)) fun v6 =>
 if (decide (length x5 + length (v6 :: ([] : List Maker)) <= lim)) = true then
 some (.inl (x1, (x2, ((wrap .i64 (x3 + (1 : Int))), (x4, ((List.append x5 (v6 :: ([] : List Maker))), ()))))))
 else
 none
 else
 none
 else
 if (spec_l4Copy.pre (List.getD x1 (Int.toNat x3) zd5)) = true then
 letB (spec_l4Copy (List.getD x1 (Int.toNat x3) zd5)) fun v7 =>
 if (decide (length x5 + length (v7 :: ([] : List Maker)) <= lim)) = true then
 some (.inl (x1, (x2, ((wrap .i64 (x3 + (1 : Int))), (x4, ((List.append x5 (v7 :: ([] : List Maker))), ()))))))
 else
 none
 else
 none
 else
 if (spec_l4Copy.pre (List.getD x1 (Int.toNat x3) zd5)) = true then
 letB (spec_l4Copy (List.getD x1 (Int.toNat x3) zd5)) fun v8 =>
 if (decide (length x5 + length (v8 :: ([] : List Maker)) <= lim)) = true then
 some (.inl (x1, (x2, ((wrap .i64 (x3 + (1 : Int))), (x4, ((List.append x5 (v8 :: ([] : List Maker))), ()))))))
 else
 none
 else
 none
 else
 if (!x2) = true then
 if (decide (x4.1 < (List.getD x1 (Int.toNat x3) zd5).1)) = true then
 if (spec_l4Copy.pre x4) = true then
 letB (spec_l4Copy x4) fun v9 =>
 if (decide (length x5 + length (v9 :: ([] : List Maker)) <= lim)) = true then
 if (spec_l4Copy.pre (List.getD x1 (Int.toNat x3) zd5)) = true then
 letB (spec_l4Copy (List.getD x1 (Int.toNat x3) zd5)) fun v10 =>
 if (decide (length (List.append x5 (v9 :: ([] : List Maker))) + length (v10 :: ([] : List Maker)) <= lim)) = true then
 some (.inl (x1, (true, ((wrap .i64 (x3 + (1 : Int))), (x4, ((List.append (List.append x5 (v9 :: ([] : List Maker))) (v10 :: ([] : List Maker))), ()))))))
 else
 none
 else
 none
 else
 none
 else
 none
 else
 if (decide ((List.getD x1 (Int.toNat x3) zd5).1 = x4.1)) = true then
 if (decide (x4.2.1 < (List.getD x1 (Int.toNat x3) zd5).2.1)) = true then
 if (spec_l4Copy.pre x4) = true then
 letB (spec_l4Copy x4) fun v11 =>
 if (decide (length x5 + length (v11 :: ([] : List Maker)) <= lim)) = true then
 if (spec_l4Copy.pre (List.getD x1 (Int.toNat x3) zd5)) = true then
 letB (spec_l4Copy (List.getD x1 (Int.toNat x3) zd5)) fun v12 =>
 if (decide (length (List.append x5 (v11 :: ([] : List Maker))) + length (v12 :: ([] : List Maker)) <= lim)) = true then
 some (.inl (x1, (true, ((wrap .i64 (x3 + (1 : Int))), (x4, ((List.append (List.append x5 (v11 :: ([] : List Maker))) (v12 :: ([] : List Maker))), ()))))))
 else
 none
 else
 none
 else
 none
 else
 none
 else
 if (spec_l4Copy.pre (List.getD x1 (Int.toNat x3) zd5)) = true then
 letB (spec_l4Copy (List.getD x1 (Int.toNat x3) zd5)) fun v13 =>
 if (decide (length x5 + length (v13 :: ([] : List Maker)) <= lim)) = true then
 some (.inl (x1, (x2, ((wrap .i64 (x3 + (1 : Int))), (x4, ((List.append x5 (v13 :: ([] : List Maker))), ()))))))
 else
 none
 else
 none
 else
 if (spec_l4Copy.pre (List.getD x1 (Int.toNat x3) zd5)) = true then
 letB (spec_l4Copy (List.getD x1 (Int.toNat x3) zd5)) fun v14 =>
 if (decide (length x5 + length (v14 :: ([] : List Maker)) <= lim)) = true then
 some (.inl (x1, (x2, ((wrap .i64 (x3 + (1 : Int))), (x4, ((List.append x5 (v14 :: ([] : List Maker))), ()))))))
 else
 none
 else
 none
 else
 if (spec_l4Copy.pre (List.getD x1 (Int.toNat x3) zd5)) = true then
 letB (spec_l4Copy (List.getD x1 (Int.toNat x3) zd5)) fun v15 =>
 if (decide (length x5 + length (v15 :: ([] : List Maker)) <= lim)) = true then
 some (.inl (x1, (x2, ((wrap .i64 (x3 + (1 : Int))), (x4, ((List.append x5 (v15 :: ([] : List Maker))), ()))))))
 else
 none
 else
 none
 else
 none
 else
 none
 else
 some (.inr (x2, (x4, (x5, ()))))
theorem wp4 : ∀ s, pre4 s = true -> Wp ((fun (x : S4) => raw4 x.1 x.2.1 x.2.2.1 x.2.2.2.1 x.2.2.2.2.1) s) (Step pre4 mu4 Q4 s) := by
 rintro ⟨x1, x2, x3, x4, x5, ⟨⟩⟩ hp
 simp only [pre4, Zb, Za] at hp
 obtain ⟨hs, hx, h1, h2, h3⟩ := hp
 have hm := mksS_iff.1 hs
 have hx' := small_iff.1 hx
 show Wp (raw4 x1 x2 x3 x4 x5) _
 unfold raw4
 by_cases hlt : x3 < (x1.length : Int)
 . have hn : x3.toNat < x1.length := by omega
   have e1 := Zn hn
   rw [getD_get hn, w64 (n := x3 + 1) (by omega) (by omega)]
   have hxe := hm.2 _ (List.getElem_mem hn)
   generalize hge : x1[x3.toNat] = e at *
   have cp1 : spec_l4Copy.pre x4 = true := hx
   have cp2 : spec_l4Copy.pre e = true := small_iff.2 hxe
   have nx : ∀ (p : Bool) (y : List Maker), y.length <= 2 -> setMk x4 x2 (x1.drop x3.toNat) = y ++ setMk x4 p (x1.drop (x3.toNat + 1)) ->
    Step pre4 mu4 Q4 (x1, x2, x3, x4, x5, ()) (.inl (x1, (p, ((x3 + 1), (x4, (x5 ++ y, ())))))) := by
    intro p y hy he
    refine ⟨?_, by simp only [mu4]; omega, ?_⟩
    . simp only [pre4, Zb, Za, Zf]
      exact ⟨hs, hx, by omega, by omega, by omega⟩
    . rintro ⟨o1, o2, o3, ⟨⟩⟩ ⟨q1, q2, q3⟩
      refine ⟨q1, q2.trans ?_, q3⟩
      show (x5 ++ y) ++ setMk x4 p (x1.drop (x3 + 1).toNat) = x5 ++ setMk x4 x2 (x1.drop x3.toNat)
      rw [he, show (x3 + 1).toNat = x3.toNat + 1 by omega, Zk]
   have l1 : ∀ a : Maker, decide (x5.length + (a :: ([] : List Maker)).length <= lim) = true := fun a => by
    simp only [Za, Zg, Zh, lim]; omega
   have l2 : ∀ a b : Maker, decide ((List.append x5 (a :: ([] : List Maker))).length + (b :: ([] : List Maker)).length <= lim) = true := fun a b => by
    simp only [Za, List.append_eq, Zf, Zg, Zh, lim]; omega
   have set1 : isMk x4.1 x4.2.1 e = true -> x2 = false -> setMk x4 x2 (x1.drop x3.toNat) = [x4] ++ setMk x4 true (x1.drop (x3.toNat + 1)) := by
    intro a b; rw [e1, b]; simp only [setMk, a, cond_true, cond_false]; rfl
   have set2 : isMk x4.1 x4.2.1 e = true -> x2 = true -> setMk x4 x2 (x1.drop x3.toNat) = [] ++ setMk x4 x2 (x1.drop (x3.toNat + 1)) := by
    intro a b; rw [e1, b]; simp only [setMk, a, cond_true]; rfl
   have set3 : isMk x4.1 x4.2.1 e = false -> x2 = false -> laterM e x4 = true -> setMk x4 x2 (x1.drop x3.toNat) = [x4, e] ++ setMk x4 true (x1.drop (x3.toNat + 1)) := by
    intro a b c; rw [e1, b]; simp only [setMk, a, c, cond_false, Bool.not_false, Bool.and_self, cond_true]; rfl
   have set4 : isMk x4.1 x4.2.1 e = false -> (!x2 && laterM e x4) = false -> setMk x4 x2 (x1.drop x3.toNat) = [e] ++ setMk x4 x2 (x1.drop (x3.toNat + 1)) := by
    intro a b; rw [e1]; simp only [setMk, a, b, cond_false]; rfl
   have fA : ∀ {p : Bool}, (!p) = true -> p = false := by intro p h; cases p <;> simp_all
   have fB : ∀ {p : Bool}, ¬ (!p) = true -> p = true := by intro p h; cases p <;> simp_all
   have keep1 : ∀ (_ : setMk x4 x2 (x1.drop x3.toNat) = [e] ++ setMk x4 x2 (x1.drop (x3.toNat + 1))),
    Wp (if spec_l4Copy.pre e = true then letB (spec_l4Copy e) fun v => if decide (x5.length + (v :: ([] : List Maker)).length <= lim) = true then some (.inl (x1, (x2, ((x3 + 1), (x4, (List.append x5 (v :: ([] : List Maker)), ())))))) else none else none) (Step pre4 mu4 Q4 (x1, x2, x3, x4, x5, ())) :=
    fun h => W_if cp2 (W_let (W_if (l1 _) (W_some (nx x2 [e] (by simp) h))))
   refine W_if (Zd hlt) (W_if (Zd h1) (W_if (Zd hlt) (W_ite (fun a => ?_) fun a => ?_)))
   . rw [Za] at a
     refine W_ite (fun b => ?_) fun b => ?_
     . rw [Za] at b
       have hk : isMk x4.1 x4.2.1 e = true := by simp [isMk, a, b]
       refine W_ite (fun c => W_if cp1 (W_let (W_if (l1 _) (W_some (nx true [x4] (by simp) (set1 hk (fA c))))))) fun c => W_some ?_
       have := nx x2 [] (by simp) (set2 hk (fB c))
       rwa [List.append_nil] at this
     . rw [Za] at b
       have hk : isMk x4.1 x4.2.1 e = false := by simp [isMk, b]
       refine W_ite (fun c => ?_) fun c => ?_
       . refine W_ite (fun d => ?_) fun d => ?_
         . rw [Za] at d
           omega
         . refine W_ite (fun _ => W_ite (fun f => ?_) fun f => ?_) fun f => ?_
           . rw [Za] at f
             exact W_if cp1 (W_let (W_if (l1 _) (W_if cp2 (W_let (W_if (l2 _ _) (W_some (by have := nx true [x4, e] (by simp) (set3 hk (fA c) (by simp [laterM, a, f])); simpa [spec_l4Copy] using this)))))))
           . rw [Za] at f
             exact keep1 (set4 hk (by simp [laterM, a, f]))
           . exact absurd (Zd a) f
       . exact keep1 (set4 hk (by rw [fB c]; rfl))
   . rw [Za] at a
     have hk : isMk x4.1 x4.2.1 e = false := by simp [isMk, a]
     refine W_ite (fun c => ?_) fun c => ?_
     . refine W_ite (fun d => ?_) fun d => ?_
       . rw [Za] at d
         exact W_if cp1 (W_let (W_if (l1 _) (W_if cp2 (W_let (W_if (l2 _ _) (W_some (by have := nx true [x4, e] (by simp) (set3 hk (fA c) (by simp [laterM, d])); simpa [spec_l4Copy] using this)))))))
       . rw [Za] at d
         refine W_else (by rw [Za]; exact a) (keep1 (set4 hk (by simp [laterM, a, d])))
     . exact keep1 (set4 hk (by rw [fB c]; rfl))
 . refine W_else (by rw [Za]; exact hlt) (W_some ⟨rfl, ?_, by show x5.length <= 2 * x1.length; omega⟩)
   show x5 ++ cond x2 [] [x4] = x5 ++ setMk x4 x2 (x1.drop x3.toNat)
   rw [Zt (by omega)]; rfl
noncomputable def fn4 : S4 -> O4 := runF (fun (x : S4) => raw4 x.1 x.2.1 x.2.2.1 x.2.2.2.1 x.2.2.2.2.1) mu4
theorem ok4 (x1 : List Maker) (x2 : Bool) (x3 : Int) (x4 : Maker) (x5 : List Maker) (hp : pre4 (x1, (x2, (x3, (x4, (x5, ()))))) = true) : Rounds pre4 mu4 fn4 (x1, (x2, (x3, (x4, (x5, ()))))) (raw4 x1 x2 x3 x4 x5) := runF_ok wp4 hp
def pre (xs : List Maker) (m : Maker) : Bool := mksS xs && small m.2.2.2.2.1
abbrev wf (x0 : (List Maker)) (x1 : Maker) : Prop := wfA [(.val (.sl 0 zk25) .f), (.val zk25 .f)] (x0, (x1, ()))
noncomputable def raw (x0 : (List Maker)) (x1 : Maker) : Option (Unit × ((List Maker) × Unit)) :=
 if (spec_MakerSet.pre4 (x0, (false, ((0 : Int), (x1, (([] : List Maker), ())))))) = true then
 letB (spec_MakerSet.fn4 (x0, (false, ((0 : Int), (x1, (([] : List Maker), ())))))) fun v1 =>
 if (!v1.1) = true then
 if (spec_l4Copy.pre v1.2.1) = true then
 letB (spec_l4Copy v1.2.1) fun v2 =>
 if (decide (length v1.2.2.1 + length (v2 :: ([] : List Maker)) <= lim)) = true then
 some ((), ((List.append v1.2.2.1 (v2 :: ([] : List Maker))), ()))
 else
 none
 else
 none
 else
 some ((), v1.2.2)
 else
 none
theorem eq (x0 : List Maker) (x1 : Maker) (_ : wf x0 x1) (hp : pre x0 x1 = true) : raw x0 x1 = some ((), (MakerSet x0 x1, ())) := by
 simp only [pre, Zb] at hp
 have hm := mksS_iff.1 hp.1
 refine W_eq ?_
 unfold raw
 have hq : pre4 (x0, (false, ((0 : Int), (x1, (([] : List Maker), ()))))) = true := by
  simp only [pre4, Zb, Za, Zh]; exact ⟨hp.1, hp.2, by omega, by omega, by omega⟩
 refine W_if hq (W_fact (runF_q wp4 hq : Q4 _ (fn4 _)) ?_)
 rintro ⟨o1, o2, o3, ⟨⟩⟩ ⟨q1, q2, q3⟩
 have q1 : o2 = x1 := q1
 have q2 : o3 ++ cond o1 [] [x1] = MakerSet x0 x1 := q2
 have q3 : o3.length <= 2 * x0.length := q3
 subst q1
 cases o1
 . refine W_if rfl (W_if (show spec_l4Copy.pre o2 = true from hp.2) (W_let (W_if (by simp only [Za, Zg, Zh, lim]; omega) (W_some q2))))
 . refine W_else Bool.false_ne_true (W_some ?_)
   rw [<- q2]
   exact (List.append_nil _).symm
end spec_MakerSet
abbrev spec_MakerSet := MakerSet
def newRow (x : Row) (key text : List UInt8) (who t : Int) : Row := (x.1, (wrap .i64 (x.2.1 + 1), (List.append x.2.2.1 ((x.2.1, (key, (text, (who, (t, ()))))) :: ([] : List Item)), x.2.2.2)))
def RowPut (x : Row) (key text : List UInt8) (who t : Int) : Row × (Int × Bool) :=
 if (RowOk x && RowOk (newRow x key text who t)) = true then (newRow x key text who t, (x.2.1, true)) else (x, (0, false))
theorem W_eq3 {β γ δ : Type} {m : Option (Unit × (β × (γ × (δ × Unit))))} {v : β × (γ × δ)} (h : Wp m fun r => (r.2.1, (r.2.2.1, r.2.2.2.1)) = v) : m = some ((), (v.1, (v.2.1, (v.2.2, ())))) := by
 obtain ⟨a, rfl, rfl⟩ := h
 rfl
def less {α : Type} (xs : List α) : Bool := decide (xs.length <= 16777000)
theorem less_iff {α : Type} {xs : List α} : less xs = true ↔ xs.length <= 16777000 := by simp [less]
theorem less_small {α : Type} {xs : List α} (h : less xs = true) : small xs = true := by rw [small_iff]; rw [less_iff] at h; omega
namespace spec_RowPut
def pre (x : Row) (_ _ : List UInt8) (_ _ : Int) : Bool := less x.2.2.1
abbrev wf (x0 : Row) (x1 : (List UInt8)) (x2 : (List UInt8)) (x3 : Int) (x4 : Int) : Prop := wfA [(.val zk23 .f), (.val .str .f), (.val .str .f), (.val (.int .i64) .f), (.val (.int .i64) .f)] (x0, (x1, (x2, (x3, (x4, ())))))
noncomputable def raw (x0 : Row) (x1 : (List UInt8)) (x2 : (List UInt8)) (x3 : Int) (x4 : Int) : Option (Unit × (Row × zt36)) :=
 if (spec_l3Copy.pre x0) = true then
 if (spec_RowOk.pre x0) = true then
 letB (RowOk x0) fun v1 =>
 if (!v1) = true then
 letB (spec_l3Copy x0) fun v2 =>
 some ((), (v2, zd29))
 else
 letB (spec_l3Copy x0) fun v3 =>
 if (decide (length v3.2.2.1 + length ((x0.2.1, (x1, (x2, (x3, (x4, ()))))) :: ([] : List Item)) <= lim)) = true then
 if (spec_RowOk.pre (v3.1, ((wrap .i64 (x0.2.1 + (1 : Int))), ((List.append v3.2.2.1 ((x0.2.1, (x1, (x2, (x3, (x4, ()))))) :: ([] : List Item))), v3.2.2.2)))) = true then
 letB (RowOk (v3.1, ((wrap .i64 (x0.2.1 + (1 : Int))), ((List.append v3.2.2.1 ((x0.2.1, (x1, (x2, (x3, (x4, ()))))) :: ([] : List Item))), v3.2.2.2)))) fun v4 =>
 if (!v4) = true then
 if (spec_l3Copy.pre x0) = true then
 some ((), (v3, zd29))
 else
 none
 else
 some ((), ((v3.1, ((wrap .i64 (x0.2.1 + (1 : Int))), ((List.append v3.2.2.1 ((x0.2.1, (x1, (x2, (x3, (x4, ()))))) :: ([] : List Item))), v3.2.2.2))), (x0.2.1, (true, ()))))
 else
 none
 else
 none
 else
 none
 else
 none
theorem eq (x0 : Row) (x1 x2 : List UInt8) (x3 x4 : Int) (_ : wf x0 x1 x2 x3 x4) (hp : pre x0 x1 x2 x3 x4 = true) : raw x0 x1 x2 x3 x4 = some ((), ((RowPut x0 x1 x2 x3 x4).1, ((RowPut x0 x1 x2 x3 x4).2.1, ((RowPut x0 x1 x2 x3 x4).2.2, ())))) := by
 have hs : less x0.2.2.1 = true := hp
 have hs' := less_iff.1 hs
 have h0 := less_small hs
 refine W_eq3 ?_
 unfold raw
 rw [show spec_l3Copy x0 = x0 from rfl]
 have hn : spec_RowOk.pre (newRow x0 x1 x2 x3 x4) = true := by
  show small (List.append x0.2.2.1 _) = true
  rw [small_iff, List.append_eq, Zf, Zg, Zh]; omega
 refine W_if (show spec_l3Copy.pre x0 = true from h0) (W_if (show spec_RowOk.pre x0 = true from h0) (W_let (W_ite (fun c => ?_) fun c => ?_)))
 . refine W_let (W_some ?_)
   show (x0, ((0 : Int), false)) = _
   exact (if_neg (by cases h : RowOk x0 <;> simp_all)).symm
 . refine W_let (W_if (by simp only [Za, Zg, Zh, lim]; exact Nat.le_trans (Nat.add_le_add_right hs' 1) (by decide)) (W_if hn (W_let (W_ite (fun d => ?_) fun d => ?_))))
   . refine W_if (show spec_l3Copy.pre x0 = true from h0) (W_some ?_)
     show (x0, ((0 : Int), false)) = _
     refine (if_neg (fun h => ?_)).symm
     rw [Zb] at h
     have d : (!RowOk (newRow x0 x1 x2 x3 x4)) = true := d
     rw [h.2] at d
     cases d
   . refine W_some ?_
     refine (if_pos ?_).symm
     have c : RowOk x0 = true := by cases h : RowOk x0 <;> simp_all
     have d : RowOk (newRow x0 x1 x2 x3 x4) = true := by
      cases h : RowOk (newRow x0 x1 x2 x3 x4)
      . exact absurd (show (!RowOk (newRow x0 x1 x2 x3 x4)) = true by rw [h]; rfl) d
      . rfl
     rw [c, d]; rfl
end spec_RowPut
abbrev spec_RowPut := RowPut
def zItem : Item := zd2
def RowGet (x : Row) (off : Int) : Item × Int :=
 if off < x.1 then (zItem, 1) else match x.2.2.1.find? (fun it => decide (off <= it.1)) with
  | some it => (it, 0)
  | none => (zItem, 2)
namespace spec_RowGet
abbrev S4 : Type := (Int × (Int × (Row × (Item × Unit))))
abbrev O4 : Type := ((Int × (Item × Unit)) ⊕ (Item × Unit))
def pre4 : S4 -> Bool := fun (_, x2, x3, _) => small x3.2.2.1 && (decide (0 <= x2) && decide (x2 <= (x3.2.2.1.length : Int)))
def mu4 : S4 -> Nat := fun (_, x2, x3, _) => x3.2.2.1.length - x2.toNat
def fn4 : S4 -> O4 := fun (x1, x2, x3, x4, _) => match (x3.2.2.1.drop x2.toNat).find? (fun it => decide (x1 <= it.1)) with
 | some it => .inl (0, (it, ()))
 | none => .inr (x4, ())
noncomputable def raw4 (x1 : Int) (x2 : Int) (x3 : Row) (x4 : Item) : Option ((Int × (Int × (Row × (Item × Unit)))) ⊕ ((Int × (Item × Unit)) ⊕ (Item × Unit))) :=
 if (decide (x2 < ((length x3.2.2.1 : Nat) : Int))) = true then
 if (decide ((0 : Int) <= x2)) = true then
 if (decide (x2 < ((length x3.2.2.1 : Nat) : Int))) = true then
 if (decide (x1 <= (List.getD x3.2.2.1 (Int.toNat x2) zd2).1)) = true then
 if (decide ((0 : Int) <= x2)) = true then
 if (decide (x2 < ((length x3.2.2.1 : Nat) : Int))) = true then
 some (.inr (.inl ((0 : Int), ((List.getD x3.2.2.1 (Int.toNat x2) zd2), ()))))
 else
 none
 else
 none
 else
 some (.inl (x1, ((wrap .i64 (x2 + (1 : Int))), (x3, (x4, ())))))
 else
 none
 else
 none
 else
 some (.inr (.inr (x4, ())))
abbrev wf (x0 : Row) (x1 : Int) : Prop := wfA [(.val zk23 .f), (.val (.int .i64) .f)] (x0, (x1, ()))
noncomputable def raw (x0 : Row) (x1 : Int) : Option (Unit × (Item × (Int × Unit))) :=
 if (decide (x1 < x0.1)) = true then
  some ((), (zd2, ((1 : Int), ())))
 else
  if (spec_RowGet.pre4 (x1, ((0 : Int), (x0, (zd2, ()))))) = true then
   letB (spec_RowGet.fn4 (x1, ((0 : Int), (x0, (zd2, ()))))) fun v1 =>
   match v1 with
   | .inl y =>
    some ((), (y.2.1, (y.1, ())))
   | .inr y =>
    some ((), (zd2, ((2 : Int), ())))
  else
   none
theorem ok4 (x1 x2 : Int) (x3 : Row) (x4 : Item) (hp : pre4 (x1, (x2, (x3, (x4, ())))) = true) : Rounds pre4 mu4 fn4 (x1, (x2, (x3, (x4, ())))) (raw4 x1 x2 x3 x4) := by
 simp only [pre4, Zb, Za] at hp
 obtain ⟨hs, h1, h2⟩ := hp
 have hs' := small_iff.1 hs
 unfold raw4
 by_cases hlt : x2 < (x3.2.2.1.length : Int)
 . have hn : x2.toNat < x3.2.2.1.length := by omega
   have e1 := Zn hn
   refine R_if (Zd hlt) (R_if (Zd h1) (R_if (Zd hlt) ?_))
   rw [getD_get hn, w64 (n := x2 + 1) (by omega) (by omega)]
   by_cases c : x1 <= x3.2.2.1[x2.toNat].1
   . refine R_if (Zd c) (R_if (Zd h1) (R_if (Zd hlt) ?_))
     simp only [Rounds, fn4]
     rw [e1, List.find?_cons, Zd c]
   . refine R_else (by rw [Za]; exact c) ⟨?_, by simp only [mu4]; omega, ?_⟩
     . simp only [pre4, Zb, Za]; exact ⟨hs, by omega, by omega⟩
     . simp only [fn4]
       rw [e1, List.find?_cons, decide_eq_false c, show (x2 + 1).toNat = x2.toNat + 1 by omega]
 . refine R_else (by rw [Za]; exact hlt) ?_
   simp only [Rounds, fn4]
   rw [Zt (by omega)]; rfl
def pre (x : Row) (_ : Int) : Bool := small x.2.2.1
theorem eq (x0 : Row) (x1 : Int) (_ : wf x0 x1) (hp : pre x0 x1 = true) : raw x0 x1 = some ((), ((RowGet x0 x1).1, ((RowGet x0 x1).2, ()))) := by
 have hs : small x0.2.2.1 = true := hp
 refine W_eq2 ?_
 unfold raw RowGet
 by_cases c1 : x1 < x0.1
 . rw [if_pos (Zd c1), if_pos c1]; exact W_some rfl
 rw [if_neg (by rw [Za]; exact c1), if_neg c1]
 refine W_if (show pre4 _ = true by simp only [pre4, Zb, Za]; exact ⟨hs, by omega, by omega⟩) (W_let ?_)
 simp only [fn4, Int.toNat_zero, List.drop_zero]
 cases x0.2.2.1.find? (fun it => decide (x1 <= it.1)) <;> exact W_some rfl
end spec_RowGet
abbrev spec_RowGet := RowGet
def blkOf (n len : Int) : Int := wrap .i64 (Int.tdiv n len)
def trimL (len keep lastB : Int) : Nat -> Int -> List Item -> Int × List Item
 | n + 1, st, it :: r => if keep < ((it :: r).length : Int) /\ ¬ blkOf it.1 len = lastB then trimL len keep lastB n (wrap .i64 (wrap .i64 (blkOf it.1 len + 1) * len)) ((it :: r).dropWhile fun y => decide (blkOf y.1 len = blkOf it.1 len)) else (st, it :: r)
 | _, st, l => (st, l)
def RowTrim (x : Row) (len keep : Int) : Row :=
 if (decide (1 <= len) && (decide (0 <= keep) && RowOk x)) = true then
  ((trimL len keep (blkOf (wrap .i64 (x.2.1 - 1)) len) x.2.2.1.length x.1 x.2.2.1).1, (x.2.1, ((trimL len keep (blkOf (wrap .i64 (x.2.1 - 1)) len) x.2.2.1.length x.1 x.2.2.1).2, ())))
 else x
theorem dropWhile_drop {α : Type} {p : α -> Bool} : (l : List α) -> l.drop (l.takeWhile p).length = l.dropWhile p
 | [] => rfl
 | a :: r => by
  cases h : p a <;> simp [List.takeWhile_cons, List.dropWhile_cons, h, dropWhile_drop r]
theorem dropWhile_len {α : Type} {p : α -> Bool} : (l : List α) -> (l.dropWhile p).length <= l.length
 | [] => Nat.le_refl _
 | a :: r => by
  cases h : p a
  . simp [List.dropWhile_cons, h]
  . have := dropWhile_len (p := p) r
    simp only [List.dropWhile_cons, h, if_true, Zg]; omega
theorem trimL_fuel {len keep lastB : Int} : (n m : Nat) -> (st : Int) -> (l : List Item) -> l.length <= n -> l.length <= m -> trimL len keep lastB n st l = trimL len keep lastB m st l
 | 0, 0, _, _, _, _ => rfl
 | 0, m + 1, st, [], _, _ => rfl
 | n + 1, 0, st, [], _, _ => rfl
 | n + 1, m + 1, st, [], _, _ => rfl
 | n + 1, m + 1, st, it :: r, h1, h2 => by
  simp only [trimL]
  split
  . refine trimL_fuel n m _ _ ?_ ?_
    all_goals
     rw [List.dropWhile_cons, if_pos (by simp)]
     have := dropWhile_len (p := fun y : Item => decide (blkOf y.1 len = blkOf it.1 len)) r
     simp only [Zg] at h1 h2
     omega
  . rfl
 | 0, _ + 1, _, _ :: _, h, _ => by simp at h
 | _ + 1, 0, _, _ :: _, _, h => by simp at h
namespace spec_RowTrim
abbrev S9 : Type := (Int × (Int × zt39))
abbrev O9 : Type := (Int × (Int × zt39))
abbrev S4 : Type := zt39
abbrev O4 : Type := ((Int × (Int × (Unit × ((List Item) × Unit)))) ⊕ zt15)
def pre9 : S9 -> Bool := fun (x1, _, _, x4, _, _, _, _, _, _, _, _, x13, _) => decide (1 <= x1) && (small x13 && (decide (0 <= x4) && decide (x4 <= (x13.length : Int))))
def mu9 : S9 -> Nat := fun (_, _, _, x4, _, _, _, _, _, _, _, _, x13, _) => x13.length - x4.toNat
def fn9 : S9 -> O9 := fun (x1, x2, x3, x4, x5, x6, x7, x8, x9, x10, x11, x12, x13, x14) => (x1, x2, x3, x4 + (((x13.drop x4.toNat).takeWhile fun y => decide (blkOf y.1 x1 = x3)).length : Int), x5, x6, x7, x8, x9, x10, x11, x12, x13, x14)
noncomputable def raw9 (x1 : Int) (x2 : Int) (x3 : Int) (x4 : Int) (x5 : Row) (x6 : Int) (x7 : Int) (x8 : Unit) (x9 : (List Item)) (x10 : Int) (x11 : Int) (x12 : Unit) (x13 : (List Item)) : Option ((Int × (Int × zt39)) ⊕ (Int × (Int × zt39))) :=
 if (decide (x4 < ((length x13 : Nat) : Int))) = true then
 if (decide ((0 : Int) <= x4)) = true then
 if (decide (x4 < ((length x13 : Nat) : Int))) = true then
 if (!(decide (x1 = (0 : Int)))) = true then
 if (decide ((wrap .i64 (Int.tdiv (List.getD x13 (Int.toNat x4) zd2).1 x1)) = x3)) = true then
 some (.inl (x1, (x2, (x3, ((wrap .i64 (x4 + (1 : Int))), (x5, (x6, (x7, (x8, (x9, (x10, (x11, (x12, (x13, ()))))))))))))))
 else
 some (.inr (x1, (x2, (x3, (x4, (x5, (x6, (x7, (x8, (x9, (x10, (x11, (x12, (x13, ()))))))))))))))
 else
 none
 else
 none
 else
 none
 else
 some (.inr (x1, (x2, (x3, (x4, (x5, (x6, (x7, (x8, (x9, (x10, (x11, (x12, (x13, ()))))))))))))))
theorem ok9 (x1 x2 x3 x4 : Int) (x5 : Row) (x6 x7 : Int) (x8 : Unit) (x9 : List Item) (x10 x11 : Int) (x12 : Unit) (x13 : List Item) (hp : pre9 (x1, (x2, (x3, (x4, (x5, (x6, (x7, (x8, (x9, (x10, (x11, (x12, (x13, ()))))))))))))) = true) :
 Rounds pre9 mu9 fn9 (x1, (x2, (x3, (x4, (x5, (x6, (x7, (x8, (x9, (x10, (x11, (x12, (x13, ()))))))))))))) (raw9 x1 x2 x3 x4 x5 x6 x7 x8 x9 x10 x11 x12 x13) := by
 simp only [pre9, Zb, Za] at hp
 obtain ⟨h0, hs, h1, h2⟩ := hp
 have hs' := small_iff.1 hs
 unfold raw9
 by_cases hlt : x4 < (x13.length : Int)
 . have hn : x4.toNat < x13.length := by omega
   have e1 := Zn hn
   refine R_if (Zd hlt) (R_if (Zd h1) (R_if (Zd hlt) (R_if (by simp only [Bool.not_eq_true', Zv]; omega) ?_)))
   rw [getD_get hn, w64 (n := x4 + 1) (by omega) (by omega)]
   by_cases c : blkOf x13[x4.toNat].1 x1 = x3
   . refine R_if (Zd c) ⟨?_, by simp only [mu9]; omega, ?_⟩
     . simp only [pre9, Zb, Za]; exact ⟨h0, hs, by omega, by omega⟩
     . simp only [fn9]
       rw [e1, List.takeWhile_cons, Zd c, show (x4 + 1).toNat = x4.toNat + 1 by omega]
       simp only [if_true, Zg]
       rw [show ∀ n : Nat, x4 + 1 + (n : Int) = x4 + ((n + 1 : Nat) : Int) from fun n => by omega]
   . refine R_else (by rw [Za]; exact c) ?_
     simp only [Rounds, fn9]
     rw [e1, List.takeWhile_cons, decide_eq_false c]
     simp
 . refine R_else (by rw [Za]; exact hlt) ?_
   simp only [Rounds, fn9]
   rw [Zt (by omega)]
   simp
def pre4 : S4 -> Bool := fun (x1, x2, _, _, _, _, _, _, _, _, x11, _) => decide (1 <= x1) && (decide (0 <= x2) && small x11)
def mu4 : S4 -> Nat := fun (_, _, _, _, _, _, _, _, _, _, x11, _) => x11.length
def Q4 (s : S4) (o : O4) : Prop := match s, o with
 | (x1, x2, x3, _, _, _, _, x8, x9, _, x11, _), .inl (y1, y2, _, y4, _) => y2 = x9 /\ (y1, y4) = trimL x1 x2 (blkOf (wrap .i64 (x3.2.1 - 1)) x1) x11.length x8 x11
 | (x1, x2, x3, _, _, _, _, x8, x9, _, x11, _), .inr (_, _, _, _, y5, y6, _, y8, _) => y6 = x9 /\ (y5, y8) = trimL x1 x2 (blkOf (wrap .i64 (x3.2.1 - 1)) x1) x11.length x8 x11
noncomputable def raw4 (x1 : Int) (x2 : Int) (x3 : Row) (x4 : Int) (x5 : Int) (x6 : Unit) (x7 : (List Item)) (x8 : Int) (x9 : Int) (x10 : Unit) (x11 : (List Item)) : Option (zt39 ⊕ ((Int × (Int × (Unit × ((List Item) × Unit)))) ⊕ zt15)) :=
 if (decide (x2 < ((length x11 : Nat) : Int))) = true then
 if (decide ((0 : Int) <= (0 : Int))) = true then
 if (decide ((0 : Int) < ((length x11 : Nat) : Int))) = true then
 if (!(decide (x1 = (0 : Int)))) = true then
 if (!(decide (x1 = (0 : Int)))) = true then
 if (decide ((wrap .i64 (Int.tdiv (List.getD x11 (Int.toNat (0 : Int)) zd2).1 x1)) = (wrap .i64 (Int.tdiv (wrap .i64 (x3.2.1 - (1 : Int))) x1)))) = true then
 some (.inr (.inl (x8, (x9, (x10, (x11, ()))))))
 else
 if (spec_RowTrim.pre9 (x1, (x2, ((wrap .i64 (Int.tdiv (List.getD x11 (Int.toNat (0 : Int)) zd2).1 x1)), ((0 : Int), (x3, (x4, (x5, (x6, (x7, (x8, (x9, (x10, (x11, ())))))))))))))) = true then
 letB (spec_RowTrim.fn9 (x1, (x2, ((wrap .i64 (Int.tdiv (List.getD x11 (Int.toNat (0 : Int)) zd2).1 x1)), ((0 : Int), (x3, (x4, (x5, (x6, (x7, (x8, (x9, (x10, (x11, ())))))))))))))) fun v1 =>
 if (decide ((0 : Int) <= v1.2.2.2.1)) = true then
 if (decide (v1.2.2.2.1 <= ((length v1.2.2.2.2.2.2.2.2.2.2.2.2.1 : Nat) : Int))) = true then
 if (decide (((length v1.2.2.2.2.2.2.2.2.2.2.2.2.1 : Nat) : Int) <= ((length v1.2.2.2.2.2.2.2.2.2.2.2.2.1 : Nat) : Int))) = true then
 if (decide (length ([] : List Item) + length (dropTake (Int.toNat v1.2.2.2.1) (Int.toNat ((length v1.2.2.2.2.2.2.2.2.2.2.2.2.1 : Nat) : Int)) v1.2.2.2.2.2.2.2.2.2.2.2.2.1) <= lim)) = true then
 some (.inl (v1.1, (v1.2.1, (v1.2.2.2.2.1, (v1.2.2.2.2.2.1, (v1.2.2.2.2.2.2.1, (v1.2.2.2.2.2.2.2.1, (v1.2.2.2.2.2.2.2.2.1, ((wrap .i64 ((wrap .i64 (v1.2.2.1 + (1 : Int))) * v1.1)), (v1.2.2.2.2.2.2.2.2.2.2.1, (v1.2.2.2.2.2.2.2.2.2.2.2.1, ((List.append ([] : List Item) (dropTake (Int.toNat v1.2.2.2.1) (Int.toNat ((length v1.2.2.2.2.2.2.2.2.2.2.2.2.1 : Nat) : Int)) v1.2.2.2.2.2.2.2.2.2.2.2.2.1)), ()))))))))))))
 else
 none
 else
 none
 else
 none
 else
 none
 else
 none
 else
 none
 else
 none
 else
 none
 else
 none
 else
 some (.inr (.inr (x4, (x5, (x6, (x7, (x8, (x9, (x10, (x11, ()))))))))))
theorem wp4 : ∀ s, pre4 s = true -> Wp ((fun (x : S4) => raw4 x.1 x.2.1 x.2.2.1 x.2.2.2.1 x.2.2.2.2.1 x.2.2.2.2.2.1 x.2.2.2.2.2.2.1 x.2.2.2.2.2.2.2.1 x.2.2.2.2.2.2.2.2.1 x.2.2.2.2.2.2.2.2.2.1 x.2.2.2.2.2.2.2.2.2.2.1) s) (Step pre4 mu4 Q4 s) := by
 rintro ⟨x1, x2, x3, x4, x5, ⟨⟩, x7, x8, x9, ⟨⟩, x11, ⟨⟩⟩ hp
 simp only [pre4, Zb, Za] at hp
 obtain ⟨h0, h1, hs⟩ := hp
 have hs' := small_iff.1 hs
 show Wp (raw4 x1 x2 x3 x4 x5 () x7 x8 x9 () x11) _
 unfold raw4
 have hz : (!decide (x1 = 0)) = true := by simp only [Bool.not_eq_true', Zv]; omega
 by_cases hlt : x2 < (x11.length : Int)
 . match x11, hs, hs', hlt with
   | [], _, _, hlt => simp only [Zh] at hlt; omega
   | it :: r, hs, hs', hlt =>
    refine W_if (Zd hlt) (W_if (by decide) (W_if (by simp only [Za, Zg]; omega) (W_if hz (W_if hz (W_ite (fun c => ?_) fun c => ?_)))))
    . rw [Za] at c
      refine W_some ⟨rfl, ?_⟩
      simp only [Zg, trimL]
      rw [if_neg (fun h => h.2 c)]
    . rw [Za] at c
      have c : ¬ blkOf it.1 x1 = blkOf (wrap .i64 (x3.2.1 - 1)) x1 := c
      have hq : pre9 (x1, (x2, (blkOf it.1 x1, ((0 : Int), (x3, (x4, (x5, ((), (x7, (x8, (x9, ((), (it :: r, ()))))))))))))) = true := by
       simp only [pre9, Zb, Za]; exact ⟨h0, hs, by omega, by omega⟩
      refine W_if hq (W_let ?_)
      have hf : fn9 (x1, (x2, (wrap .i64 (Int.tdiv ((it :: r).getD (Int.toNat 0) zd2).1 x1), ((0 : Int), (x3, (x4, (x5, ((), (x7, (x8, (x9, ((), (it :: r, ()))))))))))))) = (x1, (x2, (blkOf it.1 x1, ((((it :: r).takeWhile fun y => decide (blkOf y.1 x1 = blkOf it.1 x1)).length : Int), (x3, (x4, (x5, ((), (x7, (x8, (x9, ((), (it :: r, ()))))))))))))) := by
       show (x1, (x2, (blkOf it.1 x1, (0 + _, _)))) = _
       rw [Int.zero_add]; rfl
      rw [hf]
      have hl : ((it :: r).takeWhile fun y => decide (blkOf y.1 x1 = blkOf it.1 x1)).length <= (it :: r).length := (List.takeWhile_sublist _).length_le
      simp only []
      rw [drop_parts (by omega)]
      refine W_if (Zd (by omega)) (W_if (Zd (by omega)) (W_if (Zd (Int.le_refl _)) (W_if ?_ (W_some ?_))))
      . simp only [Za, Zh, dropTake, Zr, Zs, lim]; omega
      . rw [show (((List.takeWhile (fun y => decide (blkOf y.1 x1 = blkOf it.1 x1)) (it :: r)).length : Nat) : Int).toNat = (List.takeWhile (fun y => decide (blkOf y.1 x1 = blkOf it.1 x1)) (it :: r)).length from Int.toNat_natCast _, dropWhile_drop]
        have hd : ((it :: r).dropWhile fun y => decide (blkOf y.1 x1 = blkOf it.1 x1)).length <= r.length := by
         rw [List.dropWhile_cons, if_pos (by simp)]
         exact dropWhile_len r
        have hs2 : r.length + 1 <= 16777216 := by simpa using hs'
        have key : trimL x1 x2 (blkOf (wrap .i64 (x3.2.1 - 1)) x1) ((it :: r).dropWhile fun y => decide (blkOf y.1 x1 = blkOf it.1 x1)).length (wrap .i64 (wrap .i64 (blkOf it.1 x1 + 1) * x1)) ((it :: r).dropWhile fun y => decide (blkOf y.1 x1 = blkOf it.1 x1)) = trimL x1 x2 (blkOf (wrap .i64 (x3.2.1 - 1)) x1) (it :: r).length x8 (it :: r) := by
         rw [Zg]
         conv => rhs; unfold trimL
         rw [if_pos ⟨hlt, c⟩]
         exact trimL_fuel _ _ _ _ (Nat.le_refl _) hd
        refine ⟨?_, ?_, fun o ho => ?_⟩
        . simp only [pre4, Zb, Za, small_iff]; exact ⟨h0, h1, by omega⟩
        . show length _ < (it :: r).length
          simp only [Zg]; omega
        . cases o with
          | inl y => exact ⟨ho.1, ho.2.trans key⟩
          | inr y => exact ⟨ho.1, ho.2.trans key⟩
 . refine W_else (by rw [Za]; exact hlt) (W_some ⟨rfl, ?_⟩)
   match x11, hlt with
   | [], _ => rfl
   | it :: r, hlt =>
    simp only [Zg, trimL]
    rw [if_neg (fun h => hlt h.1)]
noncomputable def fn4 : S4 -> O4 := runS (fun (x : S4) => raw4 x.1 x.2.1 x.2.2.1 x.2.2.2.1 x.2.2.2.2.1 x.2.2.2.2.2.1 x.2.2.2.2.2.2.1 x.2.2.2.2.2.2.2.1 x.2.2.2.2.2.2.2.2.1 x.2.2.2.2.2.2.2.2.2.1 x.2.2.2.2.2.2.2.2.2.2.1) mu4
theorem ok4 (x1 x2 : Int) (x3 : Row) (x4 x5 : Int) (x6 : Unit) (x7 : List Item) (x8 x9 : Int) (x10 : Unit) (x11 : List Item) (hp : pre4 (x1, (x2, (x3, (x4, (x5, (x6, (x7, (x8, (x9, (x10, (x11, ()))))))))))) = true) :
 Rounds pre4 mu4 fn4 (x1, (x2, (x3, (x4, (x5, (x6, (x7, (x8, (x9, (x10, (x11, ()))))))))))) (raw4 x1 x2 x3 x4 x5 x6 x7 x8 x9 x10 x11) := runS_ok wp4 hp
def pre (x : Row) (_ _ : Int) : Bool := small x.2.2.1
abbrev wf (x0 : Row) (x1 : Int) (x2 : Int) : Prop := wfA [(.val zk23 .f), (.val (.int .i64) .f), (.val (.int .i64) .f)] (x0, (x1, (x2, ())))
noncomputable def raw (x0 : Row) (x1 : Int) (x2 : Int) : Option (Unit × (Row × Unit)) :=
 if (spec_l3Copy.pre x0) = true then
  if (decide (x1 < (1 : Int))) = true then
   letB (spec_l3Copy x0) fun v1 =>
   some ((), (v1, ()))
  else
   if (decide (x2 < (0 : Int))) = true then
    letB (spec_l3Copy x0) fun v2 =>
    some ((), (v2, ()))
   else
    if (spec_RowOk.pre x0) = true then
     letB (RowOk x0) fun v3 =>
     if (!v3) = true then
      letB (spec_l3Copy x0) fun v4 =>
      some ((), (v4, ()))
     else
      letB (spec_l3Copy x0) fun v5 =>
      if (spec_RowTrim.pre4 (x1, (x2, (x0, ((0 : Int), ((0 : Int), ((), (([] : List Item), (v5.1, (v5.2.1, (v5.2.2.2, v5.2.2))))))))))) = true then
       letB (spec_RowTrim.fn4 (x1, (x2, (x0, ((0 : Int), ((0 : Int), ((), (([] : List Item), (v5.1, (v5.2.1, (v5.2.2.2, v5.2.2))))))))))) fun v6 =>
       match v6 with
       | .inl y =>
        some ((), ((y.1, (y.2.1, (y.2.2.2.1, y.2.2.1))), ()))
       | .inr y =>
        some ((), ((y.2.2.2.2.1, (y.2.2.2.2.2.1, (y.2.2.2.2.2.2.2.1, y.2.2.2.2.2.2.1))), ()))
      else
       none
    else
     none
 else
  none
theorem eq (x0 : Row) (x1 x2 : Int) (_ : wf x0 x1 x2) (hp : pre x0 x1 x2 = true) : raw x0 x1 x2 = some ((), (RowTrim x0 x1 x2, ())) := by
 have hs : small x0.2.2.1 = true := hp
 refine W_eq ?_
 unfold raw
 rw [show spec_l3Copy x0 = x0 from rfl]
 refine W_if (show spec_l3Copy.pre x0 = true from hs) ?_
 have no : (decide (1 <= x1) && (decide (0 <= x2) && RowOk x0)) = false -> RowTrim x0 x1 x2 = x0 := fun h => if_neg (by rw [h]; exact Bool.false_ne_true)
 by_cases c1 : x1 < 1
 . exact W_if (Zd c1) (W_let (W_some (no (by rw [decide_eq_false (p := 1 <= x1) (by omega)]; rfl)).symm))
 refine W_else (by rw [Za]; exact c1) ?_
 by_cases c2 : x2 < 0
 . exact W_if (Zd c2) (W_let (W_some (no (by rw [decide_eq_false (p := 0 <= x2) (by omega), Bool.false_and, Bool.and_false])).symm))
 refine W_else (by rw [Za]; exact c2) (W_if (show spec_RowOk.pre x0 = true from hs) (W_let ?_))
 cases c3 : RowOk x0
 . exact W_if rfl (W_let (W_some (no (by rw [c3, Bool.and_false, Bool.and_false])).symm))
 refine W_else (by decide) (W_let ?_)
 have hq : pre4 (x1, (x2, (x0, ((0 : Int), ((0 : Int), ((), (([] : List Item), (x0.1, (x0.2.1, (x0.2.2.2, x0.2.2)))))))))) = true := by
  simp only [pre4, Zb, Za]; exact ⟨by omega, by omega, hs⟩
 rw [show RowTrim x0 x1 x2 = _ from if_pos (by rw [c3, Zd (p := 1 <= x1) (by omega), Zd (p := 0 <= x2) (by omega)]; rfl)]
 refine W_if hq (W_fact (runS_q wp4 hq : Q4 _ (fn4 _)) fun o ho => ?_)
 cases o with
 | inl y =>
  obtain ⟨y1, y2, y3, y4, ⟨⟩⟩ := y
  obtain ⟨q1, q2⟩ := ho
  refine W_some ?_
  show (y1, (y2, (y4, ()))) = _
  rw [<- q2, q1]
 | inr y =>
  obtain ⟨_, _, _, _, y5, y6, ⟨⟩, y8, ⟨⟩⟩ := y
  obtain ⟨q1, q2⟩ := ho
  refine W_some ?_
  show (y5, (y6, (y8, ()))) = _
  rw [<- q2, q1]
end spec_RowTrim
abbrev spec_RowTrim := RowTrim
def behind (x : Row) (i : Int) : Bool := (x.2.2.1.drop (i.toNat + 1)).any fun y => y.2.1 == (x.2.2.1.getD i.toNat zd2).2.1
namespace spec_l3Behind
abbrev S2 : Type := (Int × (Int × (Row × Unit)))
abbrev O2 : Type := ((Bool × Unit) ⊕ Unit)
def pre2 : S2 -> Bool := fun (x1, x2, x3, _) => small x3.2.2.1 && (decide (0 <= x1) && (decide (x1 < (x3.2.2.1.length : Int)) && (decide (0 <= x2) && decide (x2 <= (x3.2.2.1.length : Int)))))
def mu2 : S2 -> Nat := fun (_, x2, x3, _) => x3.2.2.1.length - x2.toNat
def fn2 : S2 -> O2 := fun (x1, x2, x3, _) => cond ((x3.2.2.1.drop x2.toNat).any fun y => y.2.1 == (x3.2.2.1.getD x1.toNat zd2).2.1) (.inl (true, ())) (.inr ())
noncomputable def raw2 (x1 : Int) (x2 : Int) (x3 : Row) : Option ((Int × (Int × (Row × Unit))) ⊕ ((Bool × Unit) ⊕ Unit)) :=
 if (decide (x2 < ((length x3.2.2.1 : Nat) : Int))) = true then
 if (decide ((0 : Int) <= x2)) = true then
 if (decide (x2 < ((length x3.2.2.1 : Nat) : Int))) = true then
 if (decide ((0 : Int) <= x1)) = true then
 if (decide (x1 < ((length x3.2.2.1 : Nat) : Int))) = true then
 if ((List.getD x3.2.2.1 (Int.toNat x2) zd2).2.1 == (List.getD x3.2.2.1 (Int.toNat x1) zd2).2.1) = true then
 some (.inr (.inl (true, ())))
 else
 some (.inl (x1, ((wrap .i64 (x2 + (1 : Int))), (x3, ()))))
 else
 none
 else
 none
 else
 none
 else
 none
 else
 some (.inr (.inr ()))
abbrev wf (x0 : Row) (x1 : Int) : Prop := wfA [(.val zk23 .f), (.val (.int .i64) .f)] (x0, (x1, ()))
noncomputable def raw (x0 : Row) (x1 : Int) : Option zt30 :=
 if (spec_l3Behind.pre2 (x1, ((wrap .i64 (x1 + (1 : Int))), (x0, ())))) = true then
  letB (spec_l3Behind.fn2 (x1, ((wrap .i64 (x1 + (1 : Int))), (x0, ())))) fun v1 =>
  match v1 with
  | .inl y =>
   some ((), y)
  | .inr y =>
   some ((), (false, ()))
 else
  none
theorem ok2 (x1 x2 : Int) (x3 : Row) (hp : pre2 (x1, (x2, (x3, ()))) = true) : Rounds pre2 mu2 fn2 (x1, (x2, (x3, ()))) (raw2 x1 x2 x3) := by
 simp only [pre2, Zb, Za] at hp
 obtain ⟨hs, k0, k1, h1, h2⟩ := hp
 have hs' := small_iff.1 hs
 unfold raw2
 by_cases hlt : x2 < (x3.2.2.1.length : Int)
 . have hn : x2.toNat < x3.2.2.1.length := by omega
   have e1 := Zn hn
   refine R_if (Zd hlt) (R_if (Zd h1) (R_if (Zd hlt) (R_if (Zd k0) (R_if (Zd k1) ?_))))
   rw [getD_get hn, w64 (n := x2 + 1) (by omega) (by omega)]
   cases c : (x3.2.2.1[x2.toNat].2.1 == (x3.2.2.1.getD x1.toNat zd2).2.1)
   . refine R_else (by decide) ⟨?_, by simp only [mu2]; omega, ?_⟩
     . simp only [pre2, Zb, Za]; exact ⟨hs, k0, k1, by omega, by omega⟩
     . simp only [fn2]
       rw [e1, List.any_cons, c, Bool.false_or, show (x2 + 1).toNat = x2.toNat + 1 by omega]
   . refine R_if rfl ?_
     simp only [Rounds, fn2]
     rw [e1, List.any_cons, c, Bool.true_or]; rfl
 . refine R_else (by rw [Za]; exact hlt) ?_
   simp only [Rounds, fn2]
   rw [Zt (by omega)]; rfl
def pre (x : Row) (i : Int) : Bool := small x.2.2.1 && (decide (0 <= i) && decide (i < (x.2.2.1.length : Int)))
theorem eq (x0 : Row) (x1 : Int) (_ : wf x0 x1) (hp : pre x0 x1 = true) : raw x0 x1 = some ((), (behind x0 x1, ())) := by
 simp only [pre, Zb, Za] at hp
 obtain ⟨hs, k0, k1⟩ := hp
 have hs' := small_iff.1 hs
 unfold raw behind
 rw [w64 (n := x1 + 1) (by omega) (by omega)]
 refine E_if (show pre2 _ = true by simp only [pre2, Zb, Za]; exact ⟨hs, k0, k1, by omega, by omega⟩) (E_let ?_)
 simp only [fn2]
 rw [show (x1 + 1).toNat = x1.toNat + 1 by omega]
 cases (x0.2.2.1.drop (x1.toNat + 1)).any fun y => y.2.1 == (x0.2.2.1.getD x1.toNat zd2).2.1 <;> rfl
end spec_l3Behind
abbrev spec_l3Behind := behind
def packL (len lastB : Int) : List Item -> List Item
 | [] => []
 | it :: r => cond (it.2.1 == ([] : List UInt8) || (!(r.any fun y => y.2.1 == it.2.1) || decide (blkOf it.1 len = lastB))) (it :: packL len lastB r) (packL len lastB r)
theorem packL_cons {len lastB : Int} {it : Item} {r : List Item} : packL len lastB (it :: r) = cond (it.2.1 == ([] : List UInt8) || (!(r.any fun y => y.2.1 == it.2.1) || decide (blkOf it.1 len = lastB))) (it :: packL len lastB r) (packL len lastB r) := rfl
def RowPack (x : Row) (len : Int) : Row :=
 if (decide (1 <= len) && RowOk x) = true then (x.1, (x.2.1, (packL len (blkOf (wrap .i64 (x.2.1 - 1)) len) x.2.2.1, ()))) else x
namespace spec_RowPack
abbrev S5 : Type := zt39
abbrev O5 : Type := zt15
def pre5 : S5 -> Bool := fun (x1, x2, x3, _, _, _, _, _, _, _, x11, _) => decide (1 <= x1) && (small x3.2.2.1 && (decide (0 <= x2) && (decide (x2 <= (x3.2.2.1.length : Int)) && decide ((x11.length : Int) <= x2))))
def mu5 : S5 -> Nat := fun (_, x2, x3, _) => x3.2.2.1.length - x2.toNat
def Q5 (s : S5) (o : O5) : Prop := match s, o with
 | (x1, x2, x3, _, _, _, _, x8, x9, _, x11, _), (_, _, _, _, y5, y6, _, y8, _) => y5 = x8 /\ y6 = x9 /\ y8 = x11 ++ packL x1 (blkOf (wrap .i64 (x3.2.1 - 1)) x1) (x3.2.2.1.drop x2.toNat)
noncomputable def raw5 (x1 : Int) (x2 : Int) (x3 : Row) (x4 : Int) (x5 : Int) (x6 : Unit) (x7 : (List Item)) (x8 : Int) (x9 : Int) (x10 : Unit) (x11 : (List Item)) : Option (zt39 ⊕ zt15) :=
 if (decide (x2 < ((length x3.2.2.1 : Nat) : Int))) = true then
 if (decide ((0 : Int) <= x2)) = true then
 if (decide (x2 < ((length x3.2.2.1 : Nat) : Int))) = true then
 if ((List.getD x3.2.2.1 (Int.toNat x2) zd2).2.1 == ([] : List UInt8)) = true then
 if (decide (length x11 + length ((List.getD x3.2.2.1 (Int.toNat x2) zd2) :: ([] : List Item)) <= lim)) = true then
 some (.inl (x1, ((wrap .i64 (x2 + (1 : Int))), (x3, (x4, (x5, (x6, (x7, (x8, (x9, (x10, ((List.append x11 ((List.getD x3.2.2.1 (Int.toNat x2) zd2) :: ([] : List Item))), ()))))))))))))
 else
 none
 else
 if (spec_l3Behind.pre x3 x2) = true then
 letB (behind x3 x2) fun v1 =>
 if (!v1) = true then
 if (decide (length x11 + length ((List.getD x3.2.2.1 (Int.toNat x2) zd2) :: ([] : List Item)) <= lim)) = true then
 some (.inl (x1, ((wrap .i64 (x2 + (1 : Int))), (x3, (x4, (x5, (x6, (x7, (x8, (x9, (x10, ((List.append x11 ((List.getD x3.2.2.1 (Int.toNat x2) zd2) :: ([] : List Item))), ()))))))))))))
 else
 none
 else
 if (!(decide (x1 = (0 : Int)))) = true then
 if (!(decide (x1 = (0 : Int)))) = true then
 if (decide ((wrap .i64 (Int.tdiv (List.getD x3.2.2.1 (Int.toNat x2) zd2).1 x1)) = (wrap .i64 (Int.tdiv (wrap .i64 (x3.2.1 - (1 : Int))) x1)))) = true then
 if (decide (length x11 + length ((List.getD x3.2.2.1 (Int.toNat x2) zd2) :: ([] : List Item)) <= lim)) = true then
 some (.inl (x1, ((wrap .i64 (x2 + (1 : Int))), (x3, (x4, (x5, (x6, (x7, (x8, (x9, (x10, ((List.append x11 ((List.getD x3.2.2.1 (Int.toNat x2) zd2) :: ([] : List Item))), ()))))))))))))
 else
 none
 else
 some (.inl (x1, ((wrap .i64 (x2 + (1 : Int))), (x3, (x4, (x5, (x6, (x7, (x8, (x9, (x10, (x11, ()))))))))))))
 else
 none
 else
 none
 else
 none
 else
 none
 else
 none
 else
 some (.inr (x4, (x5, (x6, (x7, (x8, (x9, (x10, (x11, ())))))))))
theorem wp5 : ∀ s, pre5 s = true -> Wp ((fun (x : S5) => raw5 x.1 x.2.1 x.2.2.1 x.2.2.2.1 x.2.2.2.2.1 x.2.2.2.2.2.1 x.2.2.2.2.2.2.1 x.2.2.2.2.2.2.2.1 x.2.2.2.2.2.2.2.2.1 x.2.2.2.2.2.2.2.2.2.1 x.2.2.2.2.2.2.2.2.2.2.1) s) (Step pre5 mu5 Q5 s) := by
 rintro ⟨x1, x2, x3, x4, x5, ⟨⟩, x7, x8, x9, ⟨⟩, x11, ⟨⟩⟩ hp
 simp only [pre5, Zb, Za] at hp
 obtain ⟨h0, hs, h1, h2, h3⟩ := hp
 have hs' := small_iff.1 hs
 show Wp (raw5 x1 x2 x3 x4 x5 () x7 x8 x9 () x11) _
 unfold raw5
 by_cases hlt : x2 < (x3.2.2.1.length : Int)
 . have hn : x2.toNat < x3.2.2.1.length := by omega
   have e1 := Zn hn
   have bh : behind x3 x2 = (x3.2.2.1.drop (x2.toNat + 1)).any fun y => y.2.1 == x3.2.2.1[x2.toNat].2.1 := by unfold behind; rw [getD_get hn]
   rw [getD_get hn, w64 (n := x2 + 1) (by omega) (by omega)]
   have hz : (!decide (x1 = 0)) = true := by simp only [Bool.not_eq_true', Zv]; omega
   have hl : decide (x11.length + (x3.2.2.1[x2.toNat] :: ([] : List Item)).length <= lim) = true := by
    simp only [Za, Zg, Zh, lim]; omega
   have nx : ∀ y : List Item, y.length <= 1 -> packL x1 (blkOf (wrap .i64 (x3.2.1 - 1)) x1) (x3.2.2.1.drop x2.toNat) = y ++ packL x1 (blkOf (wrap .i64 (x3.2.1 - 1)) x1) (x3.2.2.1.drop (x2.toNat + 1)) ->
    Step pre5 mu5 Q5 (x1, x2, x3, x4, x5, (), x7, x8, x9, (), x11, ()) (.inl (x1, ((x2 + 1), (x3, (x4, (x5, ((), (x7, (x8, (x9, ((), (x11 ++ y, ())))))))))))) := by
    intro y hy he
    refine ⟨?_, by simp only [mu5]; omega, ?_⟩
    . simp only [pre5, Zb, Za, Zf]; exact ⟨h0, hs, by omega, by omega, by omega⟩
    . rintro ⟨_, _, _, _, y5, y6, ⟨⟩, y8, ⟨⟩⟩ ⟨q1, q2, q3⟩
      refine ⟨q1, q2, q3.trans ?_⟩
      rw [he, show (x2 + 1).toNat = x2.toNat + 1 by omega, Zk]
   have nx1 : (x3.2.2.1[x2.toNat].2.1 == ([] : List UInt8) || (!behind x3 x2 || decide (blkOf x3.2.2.1[x2.toNat].1 x1 = blkOf (wrap .i64 (x3.2.1 - 1)) x1))) = true ->
    Step pre5 mu5 Q5 (x1, x2, x3, x4, x5, (), x7, x8, x9, (), x11, ()) (.inl (x1, ((x2 + 1), (x3, (x4, (x5, ((), (x7, (x8, (x9, ((), (List.append x11 (x3.2.2.1[x2.toNat] :: ([] : List Item)), ())))))))))))) := fun h =>
    nx [x3.2.2.1[x2.toNat]] (by simp) (by rw [bh] at h; rw [e1, packL_cons, h]; rfl)
   have nx0 : (x3.2.2.1[x2.toNat].2.1 == ([] : List UInt8) || (!behind x3 x2 || decide (blkOf x3.2.2.1[x2.toNat].1 x1 = blkOf (wrap .i64 (x3.2.1 - 1)) x1))) = false ->
    Step pre5 mu5 Q5 (x1, x2, x3, x4, x5, (), x7, x8, x9, (), x11, ()) (.inl (x1, ((x2 + 1), (x3, (x4, (x5, ((), (x7, (x8, (x9, ((), (x11, ())))))))))))) := fun h => by
    have := nx [] (by simp) (by rw [bh] at h; rw [e1, packL_cons, h]; rfl)
    rwa [List.append_nil] at this
   refine W_if (Zd hlt) (W_if (Zd h1) (W_if (Zd hlt) (W_ite (fun c => ?_) fun c => ?_)))
   . exact W_if hl (W_some (nx1 (by rw [c]; rfl)))
   . have c : (x3.2.2.1[x2.toNat].2.1 == ([] : List UInt8)) = false := by cases h : (x3.2.2.1[x2.toNat].2.1 == ([] : List UInt8)) <;> simp_all
     refine W_if (show spec_l3Behind.pre x3 x2 = true by simp only [spec_l3Behind.pre, Zb, Za]; exact ⟨hs, h1, hlt⟩) (W_let (W_ite (fun d => ?_) fun d => ?_))
     . exact W_if hl (W_some (nx1 (by rw [c, d]; rfl)))
     . have d : behind x3 x2 = true := by cases h : behind x3 x2 <;> simp_all
       refine W_if hz (W_if hz (W_ite (fun f => ?_) fun f => ?_))
       . exact W_if hl (W_some (nx1 (by rw [c, d]; exact f)))
       . rw [Za] at f
         have f : ¬ blkOf x3.2.2.1[x2.toNat].1 x1 = blkOf (wrap .i64 (x3.2.1 - 1)) x1 := f
         exact W_some (nx0 (by rw [c, d, decide_eq_false f]; rfl))
 . refine W_else (by rw [Za]; exact hlt) (W_some ⟨rfl, rfl, ?_⟩)
   rw [Zt (by omega)]
   exact (List.append_nil _).symm
noncomputable def fn5 : S5 -> O5 := runF (fun (x : S5) => raw5 x.1 x.2.1 x.2.2.1 x.2.2.2.1 x.2.2.2.2.1 x.2.2.2.2.2.1 x.2.2.2.2.2.2.1 x.2.2.2.2.2.2.2.1 x.2.2.2.2.2.2.2.2.1 x.2.2.2.2.2.2.2.2.2.1 x.2.2.2.2.2.2.2.2.2.2.1) mu5
theorem ok5 (x1 x2 : Int) (x3 : Row) (x4 x5 : Int) (x6 : Unit) (x7 : List Item) (x8 x9 : Int) (x10 : Unit) (x11 : List Item) (hp : pre5 (x1, (x2, (x3, (x4, (x5, (x6, (x7, (x8, (x9, (x10, (x11, ()))))))))))) = true) :
 Rounds pre5 mu5 fn5 (x1, (x2, (x3, (x4, (x5, (x6, (x7, (x8, (x9, (x10, (x11, ()))))))))))) (raw5 x1 x2 x3 x4 x5 x6 x7 x8 x9 x10 x11) := runF_ok wp5 hp
def pre (x : Row) (_ : Int) : Bool := small x.2.2.1
abbrev wf (x0 : Row) (x1 : Int) : Prop := wfA [(.val zk23 .f), (.val (.int .i64) .f)] (x0, (x1, ()))
noncomputable def raw (x0 : Row) (x1 : Int) : Option (Unit × (Row × Unit)) :=
 if (decide (x1 < (1 : Int))) = true then
 if (spec_l3Copy.pre x0) = true then
 letB (spec_l3Copy x0) fun v1 =>
 some ((), (v1, ()))
 else
 none
 else
 if (spec_RowOk.pre x0) = true then
 letB (RowOk x0) fun v2 =>
 if (!v2) = true then
 if (spec_l3Copy.pre x0) = true then
 letB (spec_l3Copy x0) fun v3 =>
 some ((), (v3, ()))
 else
 none
 else
 if (spec_RowPack.pre5 (x1, ((0 : Int), (x0, ((0 : Int), ((0 : Int), ((), (([] : List Item), (x0.1, (x0.2.1, ((), (([] : List Item), ())))))))))))) = true then
 letB (spec_RowPack.fn5 (x1, ((0 : Int), (x0, ((0 : Int), ((0 : Int), ((), (([] : List Item), (x0.1, (x0.2.1, ((), (([] : List Item), ())))))))))))) fun v4 =>
 some ((), ((v4.2.2.2.2.1, (v4.2.2.2.2.2.1, (v4.2.2.2.2.2.2.2.1, v4.2.2.2.2.2.2.1))), ()))
 else
 none
 else
 none
theorem eq (x0 : Row) (x1 : Int) (_ : wf x0 x1) (hp : pre x0 x1 = true) : raw x0 x1 = some ((), (RowPack x0 x1, ())) := by
 have hs : small x0.2.2.1 = true := hp
 refine W_eq ?_
 unfold raw
 have no : (decide (1 <= x1) && RowOk x0) = false -> RowPack x0 x1 = x0 := fun h => if_neg (by rw [h]; exact Bool.false_ne_true)
 by_cases c1 : x1 < 1
 . exact W_if (Zd c1) (W_if (show spec_l3Copy.pre x0 = true from hs) (W_let (W_some (no (by rw [decide_eq_false (p := 1 <= x1) (by omega)]; rfl)).symm)))
 refine W_else (by rw [Za]; exact c1) (W_if (show spec_RowOk.pre x0 = true from hs) (W_let ?_))
 cases c3 : RowOk x0
 . exact W_if rfl (W_if (show spec_l3Copy.pre x0 = true from hs) (W_let (W_some (no (by rw [c3, Bool.and_false])).symm)))
 have hq : pre5 (x1, ((0 : Int), (x0, ((0 : Int), ((0 : Int), ((), (([] : List Item), (x0.1, (x0.2.1, ((), (([] : List Item), ()))))))))))) = true := by
  simp only [pre5, Zb, Za, Zh]; exact ⟨by omega, hs, by omega, by omega, by omega⟩
 rw [show RowPack x0 x1 = _ from if_pos (by rw [c3, Zd (p := 1 <= x1) (by omega)]; rfl)]
 refine W_else (by decide) (W_if hq (W_fact (runF_q wp5 hq : Q5 _ (fn5 _)) ?_))
 rintro ⟨_, _, _, _, y5, y6, ⟨⟩, y8, ⟨⟩⟩ ⟨q1, q2, q3⟩
 refine W_some ?_
 show (y5, (y6, (y8, ()))) = _
 rw [q1, q2, q3]; rfl
end spec_RowPack
abbrev spec_RowPack := RowPack
theorem getD_mem {α : Type} {xs : List α} {j : Nat} (h : j < xs.length) (d : α) : xs.getD j d ∈ xs := by
 rw [getD_get h]; exact List.getElem_mem _
theorem mem_getD {α : Type} {xs : List α} {x : α} (h : x ∈ xs) (d : α) : ∃ j, j < xs.length /\ xs.getD j d = x := by
 obtain ⟨j, hj, rfl⟩ := List.mem_iff_getElem.1 h
 exact ⟨j, hj, getD_get hj⟩
theorem pw_of_adj {α : Type} {R : α -> α -> Prop} (tr : ∀ a b c, R a b -> R b c -> R a c) (d : α) : (xs : List α) -> (∀ j, 0 < j -> j < xs.length -> R (xs.getD (j - 1) d) (xs.getD j d)) -> xs.Pairwise R
 | [], _ => List.Pairwise.nil
 | [a], _ => List.pairwise_singleton _ _
 | a :: b :: r, h => by
  have ih := pw_of_adj tr d (b :: r) fun j h0 h1 => by
   have := h (j + 1) (by omega) (by simpa using h1)
   match j, h0 with
   | j + 1, _ => exact this
  have hab : R a b := h 1 (by omega) (by simp)
  refine List.pairwise_cons.2 ⟨fun c hc => ?_, ih⟩
  rcases List.mem_cons.1 hc with rfl | hc
  . exact hab
  . exact tr _ _ _ hab ((List.pairwise_cons.1 ih).1 c hc)
theorem adj_of_pw {α : Type} {R : α -> α -> Prop} {d : α} {xs : List α} (h : xs.Pairwise R) {j : Nat} (h0 : 0 < j) (h1 : j < xs.length) : R (xs.getD (j - 1) d) (xs.getD j d) := by
 rw [getD_get h1, getD_get (show j - 1 < xs.length by omega)]
 exact List.pairwise_iff_getElem.1 h _ _ _ _ (by omega)
theorem rowOk_iff {x : Row} : RowOk x = true ↔ (0 <= x.1 /\ x.1 <= x.2.1 /\ x.2.1 <= 100000 /\ x.2.2.1.length <= 80) /\ (∀ it ∈ x.2.2.1, x.1 <= it.1 /\ it.1 < x.2.1 /\ itOk it = true) /\ x.2.2.1.Pairwise (fun a b => a.1 < b.1) := by
 constructor
 . intro h
   simp only [RowOk, Zb, Za, impl_within, allN_0, rowAt, Bool.or_eq_true] at h
   obtain ⟨⟨h1, h2⟩, h3, h4, h5⟩ := h
   rw [w64 (n := x.2.1 - 1) (by omega) (by omega)] at h5
   refine ⟨⟨h1, h2, h3, by omega⟩, fun it hit => ?_, pw_of_adj (R := fun (a b : Item) => a.1 < b.1) (fun _ _ _ => Int.lt_trans) zd2 _ fun j h0 h1 => ?_⟩
   . obtain ⟨j, hj, rfl⟩ := mem_getD hit zd2
     have := h5 j hj
     exact ⟨this.1.1, by have := this.1.2; omega, this.2.2⟩
   . have := (h5 j h1).2.1
     rcases this with h | h
     . omega
     . exact h
 . rintro ⟨⟨h1, h2, h3, h4⟩, h5, h6⟩
   simp only [RowOk, Zb, Za, impl_within, allN_0, rowAt, Bool.or_eq_true]
   rw [w64 (n := x.2.1 - 1) (by omega) (by omega)]
   refine ⟨⟨h1, h2⟩, h3, by omega, fun j hj => ?_⟩
   have := h5 _ (getD_mem hj zd2)
   refine ⟨⟨this.1, by have := this.2.1; omega⟩, ?_, this.2.2⟩
   rcases Nat.eq_zero_or_pos j with h | h
   . exact .inl h
   . exact .inr (adj_of_pw h6 h hj)
theorem packL_sub {len lastB : Int} : (l : List Item) -> (packL len lastB l).Sublist l
 | [] => List.Sublist.slnil
 | it :: r => by
  rw [packL_cons]
  cases (it.2.1 == ([] : List UInt8) || (!(r.any fun y => y.2.1 == it.2.1) || decide (blkOf it.1 len = lastB)))
  . exact (packL_sub r).cons _
  . exact (packL_sub r).cons_cons _
theorem rowPack_ok {x : Row} {len : Int} (h : RowOk x = true) : RowOk (RowPack x len) = true /\ (RowPack x len).2.1 = x.2.1 := by
 unfold RowPack
 split
 . obtain ⟨⟨h1, h2, h3, h4⟩, h5, h6⟩ := rowOk_iff.1 h
   have hs := packL_sub (len := len) (lastB := blkOf (wrap .i64 (x.2.1 - 1)) len) x.2.2.1
   exact ⟨rowOk_iff.2 ⟨⟨h1, h2, h3, Nat.le_trans hs.length_le h4⟩, fun it hit => h5 it (hs.mem hit), h6.sublist hs⟩, rfl⟩
 . exact ⟨h, rfl⟩
theorem blkOf_eq {n len : Int} (h0 : 0 <= n) (h1 : n <= 100000) (h2 : 1 <= len) : blkOf n len = n / len := by
 unfold blkOf
 rw [Int.tdiv_eq_ediv_of_nonneg h0]
 have a := Int.ediv_nonneg h0 (show 0 <= len by omega)
 have b := Int.ediv_le_self len h0
 rw [w64 (by omega) (by omega)]
theorem ediv_next {a n len : Int} (hl : 1 <= len) (h1 : a / len < n / len) : (a / len + 1) * len <= n := by
 have h2 : (a / len + 1) * len <= n / len * len := Int.mul_le_mul_of_nonneg_right (by omega) (by omega)
 have h3 : n / len * len <= n := Int.ediv_mul_le n (by omega)
 omega
theorem dropWhile_sub {α : Type} {p : α -> Bool} (l : List α) : (l.dropWhile p).Sublist l := by
 rw [<- dropWhile_drop]; exact List.drop_sublist _ _
theorem dropWhile_head {α : Type} {p : α -> Bool} : (l : List α) -> (a : α) -> (r : List α) -> l.dropWhile p = a :: r -> p a = false
 | b :: l, a, r, h => by
  cases hb : p b
  . rw [List.dropWhile_cons, if_neg (by rw [hb]; decide)] at h
    cases h; exact hb
  . rw [List.dropWhile_cons, if_pos hb] at h
    exact dropWhile_head l a r h
 | [], _, _, h => by cases h
theorem trim_rest {len : Int} {it : Item} {r : List Item} (hl : 1 <= len) (hb : ∀ y ∈ it :: r, 0 <= y.1 /\ y.1 <= 100000) (hp : (it :: r).Pairwise (fun a b => a.1 < b.1)) :
 ∀ y ∈ (it :: r).dropWhile (fun y => decide (blkOf y.1 len = blkOf it.1 len)), (it.1 / len + 1) * len <= y.1 := by
 intro y hy
 have hs := dropWhile_sub (p := fun y : Item => decide (blkOf y.1 len = blkOf it.1 len)) (it :: r)
 cases hd : (it :: r).dropWhile (fun y => decide (blkOf y.1 len = blkOf it.1 len)) with
 | nil => rw [hd] at hy; cases hy
 | cons a q =>
  have ha := dropWhile_head _ _ _ hd
  rw [hd] at hy hs
  have ham : a ∈ it :: r := hs.mem List.mem_cons_self
  have hpq := hp.sublist hs
  have h1 := hb a ham
  have h0 := hb it List.mem_cons_self
  simp only [Zv] at ha
  rw [blkOf_eq h1.1 h1.2 hl, blkOf_eq h0.1 h0.2 hl] at ha
  have hle : it.1 <= a.1 := by
   rcases List.mem_cons.1 ham with rfl | h
   . omega
   . exact Int.le_of_lt ((List.pairwise_cons.1 hp).1 a h)
  have hlt : it.1 / len < a.1 / len := by
   have := Int.ediv_le_ediv (show 0 < len by omega) hle
   omega
  have := ediv_next hl hlt
  rcases List.mem_cons.1 hy with rfl | h
  . exact this
  . have := (List.pairwise_cons.1 hpq).1 y h
    omega
theorem trimL_ok {len keep next : Int} (hl : 1 <= len) (hl8 : len <= 8) (hn : next <= 100000) : (n : Nat) -> (st : Int) -> (l : List Item) -> 0 <= st -> st <= next -> (∀ y ∈ l, st <= y.1 /\ y.1 < next) -> l.Pairwise (fun a b => a.1 < b.1) ->
 (0 <= (trimL len keep (blkOf (wrap .i64 (next - 1)) len) n st l).1 /\ (trimL len keep (blkOf (wrap .i64 (next - 1)) len) n st l).1 <= next) /\ (∀ y ∈ (trimL len keep (blkOf (wrap .i64 (next - 1)) len) n st l).2, (trimL len keep (blkOf (wrap .i64 (next - 1)) len) n st l).1 <= y.1) /\ (trimL len keep (blkOf (wrap .i64 (next - 1)) len) n st l).2.Sublist l
 | 0, st, l, h0, h1, h2, h3 => by simp only [trimL]; exact ⟨⟨h0, h1⟩, fun y hy => (h2 y hy).1, List.Sublist.refl _⟩
 | n + 1, st, [], h0, h1, h2, h3 => by simp only [trimL]; exact ⟨⟨h0, h1⟩, fun y hy => (h2 y hy).1, List.Sublist.refl _⟩
 | n + 1, st, it :: r, h0, h1, h2, h3 => by
  simp only [trimL]
  split
  . rename_i hc
    have hit := h2 it List.mem_cons_self
    have hb : ∀ y ∈ it :: r, 0 <= y.1 /\ y.1 <= 100000 := fun y hy => by have := h2 y hy; omega
    have e1 : blkOf it.1 len = it.1 / len := blkOf_eq (by omega) (by omega) hl
    have hw : wrap .i64 (next - 1) = next - 1 := w64 (by omega) (by omega)
    have e2 : blkOf (wrap .i64 (next - 1)) len = (next - 1) / len := by rw [hw]; exact blkOf_eq (by omega) (by omega) hl
    have hne := hc.2
    rw [e1, e2] at hne
    have hlt : it.1 / len < (next - 1) / len := by
     have := Int.ediv_le_ediv (show 0 < len by omega) (show it.1 <= next - 1 by omega)
     omega
    have hnx := ediv_next hl hlt
    have q0 := Int.ediv_nonneg (show 0 <= it.1 by omega) (show 0 <= len by omega)
    have q1 := Int.ediv_le_self len (show 0 <= it.1 by omega)
    have q2 : 0 <= (it.1 / len + 1) * len := Int.mul_nonneg (by omega) (by omega)
    have ew : wrap .i64 (wrap .i64 (blkOf it.1 len + 1) * len) = (it.1 / len + 1) * len := by
     rw [e1, w64 (n := it.1 / len + 1) (by omega) (by omega), w64 (by omega) (by omega)]
    rw [ew]
    have hs := dropWhile_sub (p := fun y : Item => decide (blkOf y.1 len = blkOf it.1 len)) (it :: r)
    have hr := trim_rest hl hb h3
    have ih := trimL_ok (keep := keep) hl hl8 hn n ((it.1 / len + 1) * len) _ q2 (by omega) (fun y hy => ⟨hr y hy, (h2 y (hs.mem hy)).2⟩) (h3.sublist hs)
    exact ⟨ih.1, ih.2.1, ih.2.2.trans hs⟩
  . exact ⟨⟨h0, h1⟩, fun y hy => (h2 y hy).1, List.Sublist.refl _⟩
theorem rowTrim_ok {x : Row} {len keep : Int} (h : RowOk x = true) (hl8 : len <= 8) : RowOk (RowTrim x len keep) = true /\ (RowTrim x len keep).2.1 = x.2.1 := by
 unfold RowTrim
 split
 . rename_i hc
   simp only [Zb, Za] at hc
   obtain ⟨⟨h1, h2, h3, h4⟩, h5, h6⟩ := rowOk_iff.1 h
   have ht := trimL_ok (keep := keep) hc.1 hl8 h3 x.2.2.1.length x.1 x.2.2.1 h1 h2 (fun y hy => ⟨(h5 y hy).1, (h5 y hy).2.1⟩) h6
   refine ⟨rowOk_iff.2 ⟨⟨ht.1.1, ht.1.2, h3, Nat.le_trans ht.2.2.length_le h4⟩, fun it hit => ⟨ht.2.1 it hit, (h5 it (ht.2.2.mem hit)).2⟩, h6.sublist ht.2.2⟩, rfl⟩
 . exact ⟨h, rfl⟩
theorem groupOk_iff {g : Group} {rows : Int} : GroupOk g rows = true ↔ (g.2.2.1.length = g.2.1.length /\ (g.2.2.2.1.length : Int) = rows /\ 0 <= g.1 /\ g.1 <= 100000) /\ (∀ m ∈ g.2.1, 0 <= m /\ m <= 3) /\ g.2.1.Pairwise (· < ·) /\ (∀ b ∈ g.2.2.1, 0 <= b /\ b <= 100000) /\ (∀ o ∈ g.2.2.2.1, 0 <= o /\ o <= 100000) := by
 constructor
 . intro h
   simp only [GroupOk, Zb, Za, impl_within, allN_0, memAt, Bool.or_eq_true, impl_allWithin, Zu, isClient, impl_isClient] at h
   obtain ⟨h1, h2, ⟨h3, h4⟩, h5, h6, h7⟩ := h
   refine ⟨⟨by omega, h2, h3, h4⟩, fun m hm => ?_, pw_of_adj (R := fun (a b : Int) => a < b) (fun _ _ _ => Int.lt_trans) (0 : Int) _ fun j j0 j1 => ?_, h6, h7⟩
   . obtain ⟨j, hj, rfl⟩ := mem_getD hm (0 : Int)
     exact (h5 j hj).1
   . rcases (h5 j j1).2 with h | h
     . omega
     . exact h
 . rintro ⟨⟨h1, h2, h3, h4⟩, h5, h6, h7, h8⟩
   simp only [GroupOk, Zb, Za, impl_within, allN_0, memAt, Bool.or_eq_true, impl_allWithin, Zu, isClient, impl_isClient]
   refine ⟨by omega, h2, ⟨h3, h4⟩, fun j hj => ⟨h5 _ (getD_mem hj _), ?_⟩, h7, h8⟩
   rcases Nat.eq_zero_or_pos j with h | h
   . exact .inl h
   . exact .inr (adj_of_pw h6 h hj)
theorem asc_len : (l : List Int) -> (a : Int) -> (∀ m ∈ l, a <= m /\ m <= 3) -> l.Pairwise (· < ·) -> l.length <= (4 - a).toNat
 | [], _, _, _ => Nat.zero_le _
 | m :: r, a, h, hp => by
  have h1 := h m List.mem_cons_self
  have := asc_len r (m + 1) (fun x hx => by have := (List.pairwise_cons.1 hp).1 x hx; have := h x (Zo _ hx); omega) (List.pairwise_cons.1 hp).2
  simp only [Zg]; omega
theorem groupOk_S {g : Group} {rows : Int} (h : GroupOk g rows = true) (hr : rows <= 4) : groupS g = true /\ g.2.1.length <= 4 := by
 obtain ⟨⟨h1, h2, h3, h4⟩, h5, h6, h7, h8⟩ := groupOk_iff.1 h
 have := asc_len g.2.1 0 h5 h6
 rw [groupS_iff]
 omega
theorem upG_ok {n : Int} (h0 : 0 <= n) (h1 : n <= 100000) : 0 <= upG n /\ upG n <= 100000 := by
 unfold upG; split <;> omega
theorem tickM_sub {t : Int} : (ms bs : List Int) -> (tickM t ms bs).Sublist ms
 | [], _ => List.nil_sublist _
 | _ :: _, [] => List.nil_sublist _
 | m :: ms, b :: bs => by
  simp only [tickM]
  split
  . exact (tickM_sub ms bs).cons _
  . exact (tickM_sub ms bs).cons_cons _
theorem tickB_sub {t : Int} : (bs : List Int) -> (tickB t bs).Sublist bs
 | [] => List.Sublist.slnil
 | b :: bs => by
  simp only [tickB]
  split
  . exact (tickB_sub bs).cons _
  . exact (tickB_sub bs).cons_cons _
theorem tick_len {t : Int} : (ms bs : List Int) -> bs.length = ms.length -> (tickB t bs).length = (tickM t ms bs).length
 | [], [], _ => rfl
 | m :: ms, b :: bs, h => by
  simp only [tickM, tickB]
  have := tick_len (t := t) ms bs (by simpa using h)
  split
  . exact this
  . simp only [Zg, this]
 | [], _ :: _, h => by cases h
 | _ :: _, [], h => by cases h
theorem groupTick_ok {g : Group} {rows t : Int} (h : GroupOk g rows = true) : GroupOk (GroupTick g t) rows = true := by
 obtain ⟨⟨h1, h2, h3, h4⟩, h5, h6, h7, h8⟩ := groupOk_iff.1 h
 have s1 := tickM_sub (t := t) g.2.1 g.2.2.1
 have s2 := tickB_sub (t := t) g.2.2.1
 have hu := upG_ok h3 h4
 refine groupOk_iff.2 ⟨⟨tick_len _ _ h1, h2, ?_, ?_⟩, fun m hm => h5 m (s1.mem hm), h6.sublist s1, fun b hb => h7 b (s2.mem hb), h8⟩
 . show 0 <= cond (tickG t g.2.2.1) (upG g.1) g.1
   cases tickG t g.2.2.1
   . exact h3
   . exact hu.1
 . show cond (tickG t g.2.2.1) (upG g.1) g.1 <= 100000
   cases tickG t g.2.2.1
   . exact h4
   . exact hu.2
theorem findAt_none {who : Int} : (l : List Int) -> (i : Int) -> 0 <= i -> ¬ 0 <= findAt who l i -> who ∉ l
 | [], _, _, _ => List.not_mem_nil
 | m :: r, i, h0, h => by
  simp only [findAt] at h
  split at h
  . omega
  . rename_i hm
    rw [List.mem_cons]
    rintro (e | e)
    . exact hm e.symm
    . exact findAt_none r (i + 1) (by omega) h e
theorem insAt_split {who : Int} : (ms bs : List Int) -> bs.length = ms.length -> ms.Pairwise (· < ·) -> who ∉ ms -> (∀ m ∈ ms.take (insAt who ms bs), m < who) /\ (∀ m ∈ ms.drop (insAt who ms bs), who < m)
 | [], bs, _, _, _ => by simp
 | m :: ms, b :: bs, h, hp, hn => by
  simp only [insAt]
  have hp' := List.pairwise_cons.1 hp
  rw [List.mem_cons, not_or] at hn
  split
  . rename_i hm
    have ih := insAt_split ms bs (by simpa using h) hp'.2 hn.2
    simp only [List.take_succ_cons, List.drop_succ_cons]
    exact ⟨fun x hx => by rcases List.mem_cons.1 hx with rfl | hx; exact hm; exact ih.1 x hx, ih.2⟩
  . rename_i hm
    simp only [List.take_zero, List.drop_zero]
    refine ⟨fun x hx => (by cases hx), fun x hx => ?_⟩
    have h1 : who < m := by have := hn.1; omega
    rcases List.mem_cons.1 hx with rfl | hx
    . exact h1
    . exact Int.lt_trans h1 (hp'.1 x hx)
 | _ :: _, [], h, _, _ => by cases h
theorem insL_mem {k : Nat} {x y : Int} {l : List Int} (h : y ∈ insL k x l) : y = x \/ y ∈ l := by
 unfold insL at h
 rcases Zp.1 h with h | h
 . exact .inr (List.mem_of_mem_take h)
 . rcases List.mem_cons.1 h with h | h
   . exact .inl h
   . exact .inr (List.mem_of_mem_drop h)
theorem insL_len {k : Nat} {x : Int} {l : List Int} (h : k <= l.length) : (insL k x l).length = l.length + 1 := by
 unfold insL
 rw [Zf, Zg, Zr, Zs]; omega
theorem mem_modify {α : Type} {l : List α} {i : Nat} {v y : α} (h : y ∈ l.modify i (fun _ => v)) : y = v \/ y ∈ l := by
 rw [modify_const] at h
 rcases List.mem_or_eq_of_mem_set h with h | h
 . exact .inr h
 . exact .inl h
theorem groupJoin_ok {g : Group} {rows who t : Int} (h : GroupOk g rows = true) (h0 : 0 <= t) (h1 : t <= 100000) : GroupOk (GroupJoin g who t) rows = true := by
 obtain ⟨⟨g1, g2, g3, g4⟩, g5, g6, g7, g8⟩ := groupOk_iff.1 h
 unfold GroupJoin
 split
 . rename_i hw
   have hw := within_hi hw
   split
   . split
     . refine groupOk_iff.2 ⟨⟨by rw [List.length_modify]; exact g1, g2, g3, g4⟩, g5, g6, fun b hb => ?_, g8⟩
       rcases mem_modify hb with rfl | hb
       . exact ⟨h0, h1⟩
       . exact g7 b hb
     . exact h
   . rename_i hf
     have hn := findAt_none _ _ (Int.le_refl 0) (show ¬ 0 <= findAt who g.2.1 0 from hf)
     have hs := insAt_split g.2.1 g.2.2.1 g1 g6 hn
     have hl := insAt_le (who := who) g.2.1 g.2.2.1
     have hu := upG_ok g3 g4
     refine groupOk_iff.2 ⟨⟨?_, g2, hu.1, hu.2⟩, fun m hm => ?_, ?_, fun b hb => ?_, g8⟩
     . show (insL _ _ _).length = (insL _ _ _).length
       rw [insL_len hl.2, insL_len hl.1, g1]
     . rcases insL_mem hm with rfl | hm
       . exact hw
       . exact g5 m hm
     . show (insL _ _ _).Pairwise _
       unfold insL
       rw [List.pairwise_append]
       refine ⟨g6.sublist (List.take_sublist _ _), List.pairwise_cons.2 ⟨hs.2, g6.sublist (List.drop_sublist _ _)⟩, fun a ha b hb => ?_⟩
       have := hs.1 a ha
       rcases List.mem_cons.1 hb with rfl | hb
       . exact this
       . exact Int.lt_trans this (hs.2 b hb)
     . rcases insL_mem hb with rfl | hb
       . exact ⟨h0, h1⟩
       . exact g7 b hb
 . exact h
theorem groupLeave_ok {g : Group} {rows who : Int} (h : GroupOk g rows = true) : GroupOk (GroupLeave g who) rows = true := by
 obtain ⟨⟨g1, g2, g3, g4⟩, g5, g6, g7, g8⟩ := groupOk_iff.1 h
 unfold GroupLeave
 split
 . rename_i hf
   have hl := findAt_lt (who := who) g.2.1 0 (Int.le_refl _) hf.1
   have hu := upG_ok g3 g4
   have s1 := List.eraseIdx_sublist g.2.1 (atG g who).toNat
   have s2 := List.eraseIdx_sublist g.2.2.1 (atG g who).toNat
   refine groupOk_iff.2 ⟨⟨?_, g2, hu.1, hu.2⟩, fun m hm => g5 m (s1.mem hm), g6.sublist s1, fun b hb => g7 b (s2.mem hb), g8⟩
   show (g.2.2.1.eraseIdx _).length = (g.2.1.eraseIdx _).length
   rw [List.length_eraseIdx, List.length_eraseIdx, g1]
 . exact h
theorem groupMark_ok {g : Group} {rows who gen row off : Int} (h : GroupOk g rows = true) (h0 : 0 <= off) (h1 : off <= 100000) : GroupOk (GroupMark g who gen row off).1 rows = true := by
 obtain ⟨⟨g1, g2, g3, g4⟩, g5, g6, g7, g8⟩ := groupOk_iff.1 h
 unfold GroupMark
 split
 . refine groupOk_iff.2 ⟨⟨g1, by show ((g.2.2.2.1.modify _ _).length : Int) = rows; rw [List.length_modify]; exact g2, g3, g4⟩, g5, g6, g7, fun o ho => ?_⟩
   rcases mem_modify ho with rfl | ho
   . exact ⟨h0, h1⟩
   . exact g8 o ho
 . exact h
def mkHeadP (m : Maker) (w : Int) : Prop := 0 <= m.1 /\ m.1 <= 3 /\ 0 <= m.2.1 /\ m.2.1 <= 3 /\ 0 <= m.2.2.1 /\ m.2.2.1 <= 100000 /\ -1 <= m.2.2.2.1 /\ m.2.2.2.1 <= 100000 /\ (m.2.2.2.2.1.length : Int) <= w /\ (m.2.2.2.2.1.length : Int) <= m.2.2.2.1 + 1 /\ (0 <= m.2.2.2.1 -> 0 < m.2.2.2.2.1.length)
def makerP (m : Maker) (w : Int) : Prop := mkHeadP m w /\ (∀ j, j < m.2.2.2.2.1.length -> (m.2.2.2.2.1.getD j zd28).1 = m.2.2.2.1 - ((m.2.2.2.2.1.length : Int) - 1 - j)) /\ (∀ x ∈ m.2.2.2.2.1, 0 <= x.2.1 /\ x.2.1 <= 100000) /\ m.2.2.2.2.1.Pairwise (fun a b => a.2.1 < b.2.1)
theorem makerOf_P {xs : List Maker} {row who w : Int} (h : ∀ m ∈ xs, makerP m w) (hr : 0 <= row /\ row <= 3) (hq : 0 <= who /\ who <= 3) (hw : 0 <= w) :
 makerP (MakerOf xs row who) w /\ (MakerOf xs row who).1 = row /\ (MakerOf xs row who).2.1 = who /\ (MakerOf xs row who ∈ xs \/ (MakerOf xs row who).2.2.2.2.1 = []) := by
 unfold MakerOf
 cases hf : xs.find? (isMk row who) with
 | none =>
  have hz : makerP (row, (who, ((0 : Int), ((-1 : Int), (([] : List Mark), ()))))) w := ⟨⟨hr.1, hr.2, hq.1, hq.2, Int.le_refl _, by show (0 : Int) <= 100000; omega, Int.le_refl _, by show (-1 : Int) <= 100000; omega, hw, by show (0 : Int) <= -1 + 1; omega, fun h => absurd h (by show ¬ (0 : Int) <= -1; omega)⟩, fun j hj => absurd hj (Nat.not_lt_zero _), fun x hx => absurd hx List.not_mem_nil, List.Pairwise.nil⟩
  exact ⟨hz, rfl, rfl, .inr rfl⟩
 | some m =>
  have hm := List.mem_of_find?_eq_some hf
  have hp := List.find?_some hf
  simp only [isMk, Zb, Za] at hp
  exact ⟨h m hm, hp.1, hp.2, .inl hm⟩
theorem getD_append_lt {α : Type} {a b : List α} {j : Nat} {d : α} (h : j < a.length) : (a ++ b).getD j d = a.getD j d := by
 rw [List.getD_eq_getElem?_getD, List.getD_eq_getElem?_getD, List.getElem?_append_left h]
theorem getD_append_eq {α : Type} {a : List α} {x d : α} : (a ++ [x]).getD a.length d = x := by
 rw [List.getD_eq_getElem?_getD, List.getElem?_append_right (Nat.le_refl _), Nat.sub_self]; rfl
theorem getD_drop {α : Type} {a : List α} {k j : Nat} {d : α} : (a.drop k).getD j d = a.getD (k + j) d := by
 rw [List.getD_eq_getElem?_getD, List.getD_eq_getElem?_getD, List.getElem?_drop]
theorem lastN_P {m : Maker} {w : Int} (h1 : 1 <= w) (hm : 0 < m.2.2.2.2.1.length) (h : makerP m (m.2.2.2.2.1.length : Int)) : makerP (m.1, (m.2.1, (m.2.2.1, (m.2.2.2.1, (lastN w m.2.2.2.2.1, ()))))) w := by
 obtain ⟨⟨h5, h6, h7, h8, h9, h10, h11, h12, h2, h3, h4⟩, k1, k2, k3⟩ := h
 have e : maxI w 0 = w := by unfold maxI; rw [if_pos (by omega)]
 have hl : (lastN w m.2.2.2.2.1).length = m.2.2.2.2.1.length - (m.2.2.2.2.1.length - w.toNat) := by unfold lastN; rw [e, Zs]
 refine ⟨⟨h5, h6, h7, h8, h9, h10, h11, h12, ?_, ?_, fun _ => ?_⟩, fun j hj => ?_, fun x hx => k2 x (List.mem_of_mem_drop hx), k3.sublist (List.drop_sublist _ _)⟩
 . show ((lastN w m.2.2.2.2.1).length : Int) <= w; omega
 . show ((lastN w m.2.2.2.2.1).length : Int) <= m.2.2.2.1 + 1; omega
 . show 0 < (lastN w m.2.2.2.2.1).length; omega
 . show ((lastN w m.2.2.2.2.1).getD j _).1 = m.2.2.2.1 - (((lastN w m.2.2.2.2.1).length : Int) - 1 - j)
   have hj : j < (lastN w m.2.2.2.2.1).length := hj
   rw [hl] at hj ⊢
   unfold lastN
   rw [e, getD_drop, k1 _ (by omega)]
   omega
theorem makerPut_P {m : Maker} {w epoch seq off : Int} (h : makerP m w) (hw : 1 <= w) (he : epoch <= 100000) (hq : 0 <= seq /\ seq <= 100000) (ho : 0 <= off /\ off <= 100000) (hlt : ∀ x ∈ m.2.2.2.2.1, x.2.1 < off) (ha : (MakerAsk m epoch seq).1 = 0) :
 makerP (MakerPut m w epoch seq off) w /\ (MakerPut m w epoch seq off).1 = m.1 /\ (MakerPut m w epoch seq off).2.1 = m.2.1 /\ ∀ x ∈ (MakerPut m w epoch seq off).2.2.2.2.1, x.2.1 <= off := by
 obtain ⟨⟨h5, h6, h7, h8, h9, h10, h11, h12, h2, h3, h4⟩, k1, k2, k3⟩ := h
 rw [show MakerPut m w epoch seq off = _ from if_pos ha]
 unfold MakerAsk at ha
 by_cases c1 : epoch < m.2.2.1
 . rw [if_pos c1] at ha; cases ha
 rw [if_neg c1] at ha
 by_cases c2 : m.2.2.1 < epoch
 . rw [if_pos c2] at ha
   by_cases c3 : seq = 0
   . rw [if_pos c2]
     subst c3
     refine ⟨lastN_P (m := (m.1, (m.2.1, (epoch, ((0 : Int), ([((0 : Int), (off, ()))], ())))))) hw (by show 0 < 1; omega) ⟨⟨h5, h6, h7, h8, by show 0 <= epoch; omega, he, by show (-1 : Int) <= 0; omega, by show (0 : Int) <= 100000; omega, Int.le_refl _, by show ((1 : Nat) : Int) <= 0 + 1; omega, fun _ => by show 0 < 1; omega⟩, fun j hj => ?_, fun x hx => ?_, List.pairwise_singleton _ _⟩, rfl, rfl, fun x hx => ?_⟩
     . have : j = 0 := by have : j < 1 := hj; omega
       subst this; rfl
     . rw [Zq] at hx; subst hx; exact ho
     . have := List.mem_of_mem_drop hx
       rw [List.nil_append, Zq] at this; subst this; exact Int.le_refl _
   . rw [if_neg c3] at ha; cases ha
 rw [if_neg c2] at ha
 have hee : epoch = m.2.2.1 := by omega
 by_cases c4 : m.2.2.2.1 < seq
 . rw [if_pos c4] at ha
   by_cases c5 : wrap .i64 (seq - 1) = m.2.2.2.1
   . rw [w64 (by omega) (by omega)] at c5
     rw [if_neg c2]
     subst hee
     have hm : ∀ x ∈ m.2.2.2.2.1 ++ [(seq, (off, ()))], (0 <= x.2.1 /\ x.2.1 <= 100000) /\ x.2.1 <= off := by
      intro x hx
      rcases Zp.1 hx with hx | hx
      . exact ⟨k2 x hx, Int.le_of_lt (hlt x hx)⟩
      . rw [Zq] at hx; subst hx; exact ⟨ho, Int.le_refl _⟩
     refine ⟨lastN_P (m := (m.1, (m.2.1, (m.2.2.1, (seq, (m.2.2.2.2.1 ++ [(seq, (off, ()))], ())))))) hw (by simp) ⟨⟨h5, h6, h7, h8, h9, h10, by show -1 <= seq; omega, hq.2, Int.le_refl _, ?_, fun _ => by simp⟩, fun j hj => ?_, fun x hx => (hm x hx).1, ?_⟩, rfl, rfl, fun x hx => (hm x (List.mem_of_mem_drop hx)).2⟩
     . show ((m.2.2.2.2.1 ++ [(seq, (off, ()))]).length : Int) <= seq + 1
       rw [Zf, Zg, Zh]; omega
     . show ((m.2.2.2.2.1 ++ [(seq, (off, ()))]).getD j _).1 = seq - (((m.2.2.2.2.1 ++ [(seq, (off, ()))]).length : Int) - 1 - j)
       have hj : j < (m.2.2.2.2.1 ++ [(seq, (off, ()))]).length := hj
       rw [Zf, Zg, Zh] at hj ⊢
       by_cases c : j < m.2.2.2.2.1.length
       . rw [getD_append_lt c, k1 j c]; omega
       . rw [show j = m.2.2.2.2.1.length by omega, getD_append_eq]; show seq = _; omega
     . show (m.2.2.2.2.1 ++ [(seq, (off, ()))]).Pairwise _
       rw [List.pairwise_append]
       refine ⟨k3, List.pairwise_singleton _ _, fun a ha b hb => ?_⟩
       rw [Zq] at hb; subst hb
       exact hlt a ha
   . rw [if_neg c5] at ha; cases ha
 . rw [if_neg c4] at ha
   split at ha <;> cases ha
def ltM (a b : Maker) : Prop := a.1 < b.1 \/ (a.1 = b.1 /\ a.2.1 < b.2.1)
theorem setMk_true {m : Maker} : (r : List Maker) -> (∀ x ∈ r, ltM m x) -> setMk m true r = r
 | [], _ => rfl
 | x :: r, h => by
  have hx := h x List.mem_cons_self
  have hk : isMk m.1 m.2.1 x = false := by
   simp only [isMk, Bool.and_eq_false_iff, Zv]
   rcases hx with hx | hx <;> omega
  simp only [setMk, hk, cond_false, Bool.not_true, Bool.false_and]
  rw [setMk_true r fun y hy => h y (Zo _ hy)]
theorem setMk_ok {m : Maker} : (xs : List Maker) -> xs.Pairwise ltM -> (setMk m false xs).Pairwise ltM /\ ∀ x ∈ setMk m false xs, x = m \/ x ∈ xs
 | [], _ => ⟨List.pairwise_singleton _ _, fun x hx => .inl (Zq.1 hx)⟩
 | x :: r, h => by
  have hp := List.pairwise_cons.1 h
  simp only [setMk, cond_false, Bool.not_false, Bool.true_and]
  cases hk : isMk m.1 m.2.1 x
  . cases hl : laterM x m
    . have hxm : ltM x m := by
       simp only [isMk, Bool.and_eq_false_iff, Zv] at hk
       simp only [laterM, Bool.or_eq_false_iff, Bool.and_eq_false_iff, Zv] at hl
       unfold ltM
       omega
      have ih := setMk_ok (m := m) r hp.2
      refine ⟨List.pairwise_cons.2 ⟨fun y hy => ?_, ih.1⟩, fun y hy => ?_⟩
      . rcases ih.2 y hy with rfl | hy
        . exact hxm
        . exact hp.1 y hy
      . rcases List.mem_cons.1 hy with rfl | hy
        . exact .inr List.mem_cons_self
        . rcases ih.2 y hy with h | h
          . exact .inl h
          . exact .inr (Zo _ h)
    . have hmx : ltM m x := by
       simp only [laterM, Bool.or_eq_true, Zb, Za] at hl
       unfold ltM
       omega
      have hall : ∀ y ∈ r, ltM m y := fun y hy => by
       have := hp.1 y hy
       unfold ltM at *
       omega
      simp only [cond_true, cond_false]
      rw [setMk_true r hall]
      refine ⟨List.pairwise_cons.2 ⟨fun y hy => ?_, h⟩, fun y hy => ?_⟩
      . rcases List.mem_cons.1 hy with rfl | hy
        . exact hmx
        . exact hall y hy
      . rcases List.mem_cons.1 hy with h | h
        . exact .inl h
        . exact .inr h
  . simp only [isMk, Zb, Za] at hk
    have hall : ∀ y ∈ r, ltM m y := fun y hy => by
     have := hp.1 y hy
     unfold ltM at *
     omega
    simp only [cond_true]
    rw [setMk_true r hall]
    refine ⟨List.pairwise_cons.2 ⟨hall, hp.2⟩, fun y hy => ?_⟩
    rcases List.mem_cons.1 hy with h | h
    . exact .inl h
    . exact .inr (Zo _ h)
open Classical in
noncomputable def B (p : Prop) : Bool := decide p
theorem B_iff {p : Prop} : B p = true ↔ p := by simp [B]
def mksP (s : Setup) (rows : List Row) (ms : List Maker) : Prop := (∀ m ∈ ms, makerP m s.2.1 /\ m.1 < s.1 /\ ∀ x ∈ m.2.2.2.2.1, x.2.1 < (rows.getD m.1.toNat zd9).2.1) /\ ms.Pairwise ltM
def KeepP (s : Setup) (k : Keep) : Prop :=
 (SetupOk s = true /\ (k.1.length : Int) = s.1 /\ k.2.2.1.length = 2 /\ k.2.2.2.2.1.length = 4 /\ k.2.2.2.2.2.1.length = 4 /\ 0 <= k.2.2.2.1 /\ k.2.2.2.1 <= 100000) /\ (∀ r ∈ k.1, RowOk r = true) /\ (∀ g ∈ k.2.2.1, GroupOk g s.1 = true) /\ (∀ d ∈ k.2.2.2.2.1, 0 <= d /\ d <= 100000) /\ (∀ a ∈ k.2.2.2.2.2.1, AnswerOk a = true) /\ mksP s k.1 k.2.1
theorem setup_facts {s : Setup} (h : SetupOk s = true) : 1 <= s.1 /\ s.1 <= 4 /\ 1 <= s.2.1 /\ s.2.1 <= 5 /\ 1 <= s.2.2.1 /\ s.2.2.1 <= 8 /\ 0 <= s.2.2.2.1 /\ s.2.2.2.1 <= 60 := by
 simp only [SetupOk, impl_within, Zb, Za] at h
 omega
theorem cmd_facts {c : Cmd} (h : CmdOk c = true) (h0 : 0 <= c.1) : c.1 <= 3 /\ (1 <= c.2.1 /\ c.2.1 <= 100000) /\ (1 <= c.2.2.1 /\ c.2.2.1 <= 10) /\ (0 <= c.2.2.2.1 /\ c.2.2.2.1 <= 100000) /\ (0 <= c.2.2.2.2.1 /\ c.2.2.2.2.1 <= 100000) /\ (0 <= c.2.2.2.2.2.1 /\ c.2.2.2.2.2.1 <= 100000) /\ wordsOk c.2.2.2.2.2.2.1 = true /\ wordsOk c.2.2.2.2.2.2.2.1 = true := by
 unfold CmdOk at h
 rw [if_neg (by omega)] at h
 simp only [impl_within, Zb, Za] at h
 obtain ⟨⟨_, h1⟩, h2, h3, h4, h5, h6, h7, h8⟩ := h
 exact ⟨h1, h2, h3, h4, h5, h6, h7, h8⟩
theorem asc_lenF {α : Type} {f : α -> Int} {n : Int} : (l : List α) -> (a : Int) -> (∀ m ∈ l, a <= f m /\ f m < n) -> l.Pairwise (fun x y => f x < f y) -> l.length <= (n - a).toNat
 | [], _, _, _ => Nat.zero_le _
 | m :: r, a, h, hp => by
  have h1 := h m List.mem_cons_self
  have := asc_lenF (f := f) (n := n) r (f m + 1) (fun x hx => by have h2 : f m < f x := (List.pairwise_cons.1 hp).1 x hx; have := h x (Zo _ hx); omega) (List.pairwise_cons.1 hp).2
  simp only [Zg]; omega
theorem mks_len {s : Setup} {rows : List Row} {ms : List Maker} (h : mksP s rows ms) : ms.length <= 16 := by
 have := asc_lenF (f := fun m : Maker => 4 * m.1 + m.2.1) (n := 16) ms 0 (fun m hm => by
  obtain ⟨⟨⟨h1, h2, h3, h4, _⟩, _⟩, _⟩ := h.1 m hm
  omega) (List.Pairwise.imp_of_mem (fun {a b} ha hb hab => by
   obtain ⟨⟨⟨h1, h2, h3, h4, _⟩, _⟩, _⟩ := h.1 a ha
   obtain ⟨⟨⟨g1, g2, g3, g4, _⟩, _⟩, _⟩ := h.1 b hb
   unfold ltM at hab
   omega) h.2)
 omega
theorem mks_S {s : Setup} {rows : List Row} {ms : List Maker} (hs : s.2.1 <= 5) (h : mksP s rows ms) : mksS ms = true := by
 rw [mksS_iff]
 have := mks_len h
 refine ⟨by omega, fun m hm => ?_⟩
 obtain ⟨⟨⟨_, _, _, _, _, _, _, _, h2, _⟩, _⟩, _⟩ := h.1 m hm
 omega
theorem row_S {r : Row} (h : RowOk r = true) : less r.2.2.1 = true /\ small r.2.2.1 = true := by
 have := (rowOk_iff.1 h).1.2.2.2
 rw [less_iff, small_iff]; omega
theorem keep_S {s : Setup} {k : Keep} (h : KeepP s k) : keepS k = true := by
 obtain ⟨⟨h0, h1, h2, h3, h4, h5, h6⟩, k1, k2, k3, k4, k5⟩ := h
 have hs := setup_facts h0
 have hm := mksS_iff.1 (mks_S (by omega) k5)
 simp only [keepS, Zb, Zu, small_iff]
 exact ⟨by omega, fun r hr => small_iff.1 (row_S (k1 r hr)).2, hm.1, hm.2, by omega, fun g hg => (groupOk_S (k2 g hg) hs.2.1).1, by omega, by omega⟩
def ansN (code n : Int) : Answer := (code, (n, (([] : List UInt8), (([] : List UInt8), ()))))
theorem ans_ok {code n : Int} (h0 : 0 <= code) (h1 : code <= 9) (h2 : -1 <= n) (h3 : n <= 100000) : AnswerOk (ansN code n) = true := by
 have hw : wordsOk [] = true := by decide
 show AnswerOk (code, (n, (([] : List UInt8), (([] : List UInt8), ())))) = true
 simp only [AnswerOk, impl_within, Zb, Za, hw]
 exact ⟨⟨h0, h1⟩, ⟨h2, h3⟩, trivial, trivial⟩
def setGroup (k : Keep) (i : Int) (g : Group) : Keep := (k.1, (k.2.1, (k.2.2.1.modify i.toNat (fun _ => g), k.2.2.2)))
def grpAt (k : Keep) (c : Cmd) : Group := k.2.2.1.getD c.2.2.2.1.toNat zd8
def doGroup (s : Setup) (k : Keep) (c : Cmd) : Keep × Answer :=
 if c.2.2.1 = 4 then (setGroup k c.2.2.2.1 (GroupJoin (grpAt k c) c.1 k.2.2.2.1), ansN 0 (GroupJoin (grpAt k c) c.1 k.2.2.2.1).1)
 else if c.2.2.1 = 5 then (setGroup k c.2.2.2.1 (GroupLeave (grpAt k c) c.1), ansN 0 (GroupLeave (grpAt k c) c.1).1)
 else if c.2.2.1 = 6 then cond (GroupMark (grpAt k c) c.1 (grpAt k c).1 c.2.2.2.2.1 c.2.2.2.2.2.1).2 (setGroup k c.2.2.2.1 (GroupMark (grpAt k c) c.1 (grpAt k c).1 c.2.2.2.2.1 c.2.2.2.2.2.1).1, ansN 0 c.2.2.2.2.2.1) (k, ansN 9 0)
 else if s.1 <= c.2.2.2.2.1 then (k, ansN 5 0) else (k, ansN 0 ((grpAt k c).2.2.2.1.getD c.2.2.2.2.1.toNat 0))
theorem getD_modify {α : Type} {l : List α} {i : Nat} {v d : α} (h : i < l.length) : (l.modify i (fun _ => v)).getD i d = v := by
 rw [modify_const, List.getD_eq_getElem?_getD, List.getElem?_set_self h]; rfl
theorem getD_modify_ne {α : Type} {l : List α} {i j : Nat} {v d : α} (h : i ≠ j) : (l.modify i (fun _ => v)).getD j d = l.getD j d := by
 rw [modify_const, List.getD_eq_getElem?_getD, List.getD_eq_getElem?_getD, List.getElem?_set_ne h]
def cmdP (s : Setup) (k : Keep) (c : Cmd) : Prop := KeepP s k /\ CmdOk c = true /\ 0 <= c.1
namespace spec_l6Group
noncomputable def pre (s : Setup) (k : Keep) (c : Cmd) : Bool := B (cmdP s k c /\ c.2.2.2.1 < 2)
abbrev wf (x0 : Setup) (x1 : zt1) (x2 : Cmd) : Prop := wfA [(.val zk32 .f), (.val zk3 .o), (.val zk4 .f)] (x0, (x1, (x2, ())))
noncomputable def raw (x0 : Setup) (x1 : zt1) (x2 : Cmd) : Option (Unit × (zt1 × (Answer × Unit))) :=
 if (decide ((0 : Int) <= x2.2.2.2.1)) = true then
 if (decide (x2.2.2.2.1 < ((length x1.2.2.1 : Nat) : Int))) = true then
 if (decide (x2.2.2.1 = (4 : Int))) = true then
 if (spec_GroupJoin.pre (List.getD x1.2.2.1 (Int.toNat x2.2.2.2.1) zd8) x2.1 x1.2.2.2.1) = true then
 if (decide ((0 : Int) <= x2.2.2.2.1)) = true then
 if (decide (x2.2.2.2.1 < ((length x1.2.2.1 : Nat) : Int))) = true then
 if (decide ((0 : Int) <= x2.2.2.2.1)) = true then
 if (decide (x2.2.2.2.1 < ((length (List.modify x1.2.2.1 (Int.toNat x2.2.2.2.1) (fun z => (GroupJoin (List.getD x1.2.2.1 (Int.toNat x2.2.2.2.1) zd8) x2.1 x1.2.2.2.1))) : Nat) : Int))) = true then
 some ((), ((x1.1, (x1.2.1, ((List.modify x1.2.2.1 (Int.toNat x2.2.2.2.1) (fun z => (GroupJoin (List.getD x1.2.2.1 (Int.toNat x2.2.2.2.1) zd8) x2.1 x1.2.2.2.1))), x1.2.2.2))), (((0 : Int), ((List.getD (List.modify x1.2.2.1 (Int.toNat x2.2.2.2.1) (fun z => (GroupJoin (List.getD x1.2.2.1 (Int.toNat x2.2.2.2.1) zd8) x2.1 x1.2.2.2.1))) (Int.toNat x2.2.2.2.1) zd8).1, (([] : List UInt8), (([] : List UInt8), ())))), ())))
 else
 none
 else
 none
 else
 none
 else
 none
 else
 none
 else
 if (decide (x2.2.2.1 = (5 : Int))) = true then
 if (spec_GroupLeave.pre (List.getD x1.2.2.1 (Int.toNat x2.2.2.2.1) zd8) x2.1) = true then
 if (decide ((0 : Int) <= x2.2.2.2.1)) = true then
 if (decide (x2.2.2.2.1 < ((length x1.2.2.1 : Nat) : Int))) = true then
 if (decide ((0 : Int) <= x2.2.2.2.1)) = true then
 if (decide (x2.2.2.2.1 < ((length (List.modify x1.2.2.1 (Int.toNat x2.2.2.2.1) (fun z => (GroupLeave (List.getD x1.2.2.1 (Int.toNat x2.2.2.2.1) zd8) x2.1))) : Nat) : Int))) = true then
 some ((), ((x1.1, (x1.2.1, ((List.modify x1.2.2.1 (Int.toNat x2.2.2.2.1) (fun z => (GroupLeave (List.getD x1.2.2.1 (Int.toNat x2.2.2.2.1) zd8) x2.1))), x1.2.2.2))), (((0 : Int), ((List.getD (List.modify x1.2.2.1 (Int.toNat x2.2.2.2.1) (fun z => (GroupLeave (List.getD x1.2.2.1 (Int.toNat x2.2.2.2.1) zd8) x2.1))) (Int.toNat x2.2.2.2.1) zd8).1, (([] : List UInt8), (([] : List UInt8), ())))), ())))
 else
 none
 else
 none
 else
 none
 else
 none
 else
 none
 else
 if (decide (x2.2.2.1 = (6 : Int))) = true then
 if (spec_GroupMark.pre (List.getD x1.2.2.1 (Int.toNat x2.2.2.2.1) zd8) x2.1 (List.getD x1.2.2.1 (Int.toNat x2.2.2.2.1) zd8).1 x2.2.2.2.2.1 x2.2.2.2.2.2.1) = true then
 letB (GroupMark (List.getD x1.2.2.1 (Int.toNat x2.2.2.2.1) zd8) x2.1 (List.getD x1.2.2.1 (Int.toNat x2.2.2.2.1) zd8).1 x2.2.2.2.2.1 x2.2.2.2.2.2.1) fun v1 =>
 if (!v1.2) = true then
 some ((), (x1, (((9 : Int), zd27), ())))
 else
 if (decide ((0 : Int) <= x2.2.2.2.1)) = true then
 if (decide (x2.2.2.2.1 < ((length x1.2.2.1 : Nat) : Int))) = true then
 some ((), ((x1.1, (x1.2.1, ((List.modify x1.2.2.1 (Int.toNat x2.2.2.2.1) (fun z => v1.1)), x1.2.2.2))), (((0 : Int), (x2.2.2.2.2.2.1, (([] : List UInt8), (([] : List UInt8), ())))), ())))
 else
 none
 else
 none
 else
 none
 else
 if (decide (x0.1 <= x2.2.2.2.2.1)) = true then
 some ((), (x1, (((5 : Int), zd27), ())))
 else
 if (decide ((0 : Int) <= x2.2.2.2.2.1)) = true then
 if (decide (x2.2.2.2.2.1 < ((length (List.getD x1.2.2.1 (Int.toNat x2.2.2.2.1) zd8).2.2.2.1 : Nat) : Int))) = true then
 some ((), (x1, (((0 : Int), ((List.getD (List.getD x1.2.2.1 (Int.toNat x2.2.2.2.1) zd8).2.2.2.1 (Int.toNat x2.2.2.2.2.1) (0 : Int)), (([] : List UInt8), (([] : List UInt8), ())))), ())))
 else
 none
 else
 none
 else
 none
 else
 none
theorem eq (x0 : Setup) (x1 : Keep) (x2 : Cmd) (_ : wf x0 x1 x2) (hp : pre x0 x1 x2 = true) : raw x0 x1 x2 = some ((), ((doGroup x0 x1 x2).1, ((doGroup x0 x1 x2).2, ()))) := by
 obtain ⟨⟨hk, hc, hw⟩, hA⟩ := B_iff.1 hp
 obtain ⟨⟨h0, h1, h2, h3, h4, h5, h6⟩, k1, k2, k3, k4, k5⟩ := hk
 have hs := setup_facts h0
 have cf := cmd_facts hc hw
 have hA0 := cf.2.2.2.1.1
 have hAl : x2.2.2.2.1 < (x1.2.2.1.length : Int) := by omega
 have hn : x2.2.2.2.1.toNat < x1.2.2.1.length := by omega
 have hg : GroupOk (grpAt x1 x2) x0.1 = true := k2 _ (getD_mem hn _)
 have hgs := (groupOk_S hg hs.2.1).1
 have ho := (groupOk_iff.1 hg).1.2.1
 refine W_eq2 ?_
 unfold raw doGroup
 refine W_if (Zd hA0) (W_if (Zd hAl) ?_)
 show Wp (if decide (x2.2.2.1 = 4) = true then (if spec_GroupJoin.pre (grpAt x1 x2) x2.1 x1.2.2.2.1 = true then _ else none) else _) _
 have ml : ∀ g : Group, decide (x2.2.2.2.1 < (((x1.2.2.1.modify x2.2.2.2.1.toNat (fun _ => g)).length : Nat) : Int)) = true := fun g => by rw [List.length_modify]; exact Zd hAl
 by_cases c1 : x2.2.2.1 = 4
 . rw [if_pos c1]
   refine W_if (Zd c1) (W_if (show spec_GroupJoin.pre _ _ _ = true from hgs) (W_if (Zd hA0) (W_if (Zd hAl) (W_if (Zd hA0) (W_if (ml _) (W_some ?_))))))
   show (setGroup x1 x2.2.2.2.1 (GroupJoin (grpAt x1 x2) x2.1 x1.2.2.2.1), ansN 0 ((x1.2.2.1.modify x2.2.2.2.1.toNat (fun _ => GroupJoin (grpAt x1 x2) x2.1 x1.2.2.2.1)).getD x2.2.2.2.1.toNat zd8).1) = _
   rw [getD_modify hn]
 rw [if_neg c1]
 refine W_else (by rw [Za]; exact c1) ?_
 by_cases c2 : x2.2.2.1 = 5
 . rw [if_pos c2]
   refine W_if (Zd c2) (W_if (show spec_GroupLeave.pre _ _ = true from hgs) (W_if (Zd hA0) (W_if (Zd hAl) (W_if (Zd hA0) (W_if (ml _) (W_some ?_))))))
   show (setGroup x1 x2.2.2.2.1 (GroupLeave (grpAt x1 x2) x2.1), ansN 0 ((x1.2.2.1.modify x2.2.2.2.1.toNat (fun _ => GroupLeave (grpAt x1 x2) x2.1)).getD x2.2.2.2.1.toNat zd8).1) = _
   rw [getD_modify hn]
 rw [if_neg c2]
 refine W_else (by rw [Za]; exact c2) ?_
 by_cases c3 : x2.2.2.1 = 6
 . rw [if_pos c3]
   refine W_if (Zd c3) (W_if (show spec_GroupMark.pre (grpAt x1 x2) _ _ _ _ = true from hgs) (W_let ?_))
   show Wp (if (!(GroupMark (grpAt x1 x2) x2.1 (grpAt x1 x2).1 x2.2.2.2.2.1 x2.2.2.2.2.2.1).2) = true then _ else _) _
   cases h : (GroupMark (grpAt x1 x2) x2.1 (grpAt x1 x2).1 x2.2.2.2.2.1 x2.2.2.2.2.2.1).2
   . exact W_if rfl (W_some rfl)
   . exact W_else (by decide) (W_if (Zd hA0) (W_if (Zd hAl) (W_some rfl)))
 rw [if_neg c3]
 refine W_else (by rw [Za]; exact c3) ?_
 by_cases c4 : x0.1 <= x2.2.2.2.2.1
 . rw [if_pos c4]
   exact W_if (Zd c4) (W_some rfl)
 . rw [if_neg c4]
   exact W_else (by rw [Za]; exact c4) (W_if (Zd cf.2.2.2.2.1.1) (W_if (Zd (show x2.2.2.2.2.1 < ((grpAt x1 x2).2.2.2.1.length : Int) by omega)) (W_some rfl)))
end spec_l6Group
abbrev spec_l6Group := doGroup
theorem setGroup_ok {s : Setup} {k : Keep} {i : Int} {g : Group} (h : KeepP s k) (hg : GroupOk g s.1 = true) : KeepP s (setGroup k i g) := by
 obtain ⟨⟨h0, h1, h2, h3, h4, h5, h6⟩, k1, k2, k3⟩ := h
 refine ⟨⟨h0, h1, ?_, h3, h4, h5, h6⟩, k1, fun x hx => ?_, k3⟩
 . show (k.2.2.1.modify _ _).length = 2
   rw [List.length_modify]; exact h2
 . rcases mem_modify hx with rfl | hx
   . exact hg
   . exact k2 x hx
theorem doGroup_ok {s : Setup} {k : Keep} {c : Cmd} (h : cmdP s k c) (hA : c.2.2.2.1 < 2) : KeepP s (doGroup s k c).1 /\ AnswerOk (doGroup s k c).2 = true := by
 obtain ⟨hk, hc, hw⟩ := h
 have hk' := hk
 obtain ⟨⟨h0, h1, h2, h3, h4, h5, h6⟩, k1, k2, k3, k4, k5⟩ := hk'
 have cf := cmd_facts hc hw
 have hg : GroupOk (grpAt k c) s.1 = true := k2 _ (getD_mem (by omega) _)
 have gen : ∀ g : Group, GroupOk g s.1 = true -> AnswerOk (ansN 0 g.1) = true := fun g hg => by
  have := (groupOk_iff.1 hg).1
  exact ans_ok (by omega) (by omega) (by omega) (by omega)
 unfold doGroup
 split
 . exact ⟨setGroup_ok hk (groupJoin_ok hg h5 h6), gen _ (groupJoin_ok hg h5 h6)⟩
 split
 . exact ⟨setGroup_ok hk (groupLeave_ok hg), gen _ (groupLeave_ok hg)⟩
 split
 . cases (GroupMark (grpAt k c) c.1 (grpAt k c).1 c.2.2.2.2.1 c.2.2.2.2.2.1).2
   . exact ⟨hk, ans_ok (by omega) (by omega) (by omega) (by omega)⟩
   . exact ⟨setGroup_ok hk (groupMark_ok hg cf.2.2.2.2.2.1.1 cf.2.2.2.2.2.1.2), ans_ok (by omega) (by omega) (by have := cf.2.2.2.2.2.1; omega) cf.2.2.2.2.2.1.2⟩
 split
 . exact ⟨hk, ans_ok (by omega) (by omega) (by omega) (by omega)⟩
 . rename_i hB
   have hgo := groupOk_iff.1 hg
   have := hgo.2.2.2.2 _ (getD_mem (show c.2.2.2.2.1.toNat < (grpAt k c).2.2.2.1.length by have := cf.2.2.2.2.1; have := hgo.1.2.1; omega) 0)
   exact ⟨hk, ans_ok (by omega) (by omega) (by omega) (by omega)⟩
def rowOf (k : Keep) (c : Cmd) : Row := k.1.getD c.2.2.2.1.toNat zd9
def setRow (k : Keep) (i : Int) (r : Row) : Keep := (k.1.modify i.toNat (fun _ => r), k.2)
def putRes (s : Setup) (k : Keep) (c : Cmd) : Row × (Int × Bool) := RowPut (rowOf k c) c.2.2.2.2.2.2.1 c.2.2.2.2.2.2.2.1 c.1 k.2.2.2.1
def mkOf (k : Keep) (c : Cmd) : Maker := MakerOf k.2.1 c.2.2.2.1 c.1
def doPut (s : Setup) (k : Keep) (c : Cmd) : Keep × Answer :=
 if (MakerAsk (mkOf k c) c.2.2.2.2.2.1 c.2.2.2.2.1).1 = 1 then (k, ansN 1 (MakerAsk (mkOf k c) c.2.2.2.2.2.1 c.2.2.2.2.1).2)
 else if (MakerAsk (mkOf k c) c.2.2.2.2.2.1 c.2.2.2.2.1).1 = 2 then (k, ansN 2 0)
 else if (MakerAsk (mkOf k c) c.2.2.2.2.2.1 c.2.2.2.2.1).1 = 3 then (k, ansN 3 0)
 else if (MakerAsk (mkOf k c) c.2.2.2.2.2.1 c.2.2.2.2.1).1 = 4 then (k, ansN 4 0)
 else cond (putRes s k c).2.2 ((k.1.modify c.2.2.2.1.toNat (fun _ => (putRes s k c).1), (MakerSet k.2.1 (MakerPut (mkOf k c) s.2.1 c.2.2.2.2.2.1 c.2.2.2.2.1 (putRes s k c).2.1), k.2.2)), ansN 0 (putRes s k c).2.1) (k, ansN 8 0)
theorem MakerOf_S {xs : List Maker} {row who : Int} (h : mksS xs = true) : small (MakerOf xs row who).2.2.2.2.1 = true := by
 unfold MakerOf
 cases hf : xs.find? (isMk row who) with
 | none => rfl
 | some m => exact small_iff.2 ((mksS_iff.1 h).2 m (List.mem_of_find?_eq_some hf))
theorem MakerPut_S {m : Maker} {w e q o : Int} (h : m.2.2.2.2.1.length <= 1000) : small (MakerPut m w e q o).2.2.2.2.1 = true := by
 rw [small_iff]
 unfold MakerPut
 split
 . have h1 : (lastN w ((if m.2.2.1 < e then [] else m.2.2.2.2.1) ++ [(q, (o, ()))])).length <= ((if m.2.2.1 < e then [] else m.2.2.2.2.1) ++ [(q, (o, ()))]).length := by
    unfold lastN; rw [Zs]; omega
   have h2 : ((if m.2.2.1 < e then [] else m.2.2.2.2.1) ++ [(q, (o, ()))]).length <= 1001 := by
    rw [Zf]
    split
    . simp
    . simp; omega
   show (lastN _ _).length <= _
   omega
 . omega
namespace spec_l6Put
noncomputable def pre (s : Setup) (k : Keep) (c : Cmd) : Bool := B (cmdP s k c /\ c.2.2.2.1 < s.1)
abbrev wf (x0 : Setup) (x1 : zt1) (x2 : Cmd) : Prop := wfA [(.val zk32 .f), (.val zk3 .o), (.val zk4 .f)] (x0, (x1, (x2, ())))
noncomputable def raw (x0 : Setup) (x1 : zt1) (x2 : Cmd) : Option (Unit × (zt1 × (Answer × Unit))) :=
 if (spec_MakerOf.pre x1.2.1 x2.2.2.2.1 x2.1) = true then
 letB (MakerOf x1.2.1 x2.2.2.2.1 x2.1) fun v1 =>
 if (spec_MakerAsk.pre v1 x2.2.2.2.2.2.1 x2.2.2.2.2.1) = true then
 letB (MakerAsk v1 x2.2.2.2.2.2.1 x2.2.2.2.2.1) fun v2 =>
 if (decide (v2.1 = (1 : Int))) = true then
 some ((), (x1, (((1 : Int), (v2.2, (([] : List UInt8), (([] : List UInt8), ())))), ())))
 else
 if (decide (v2.1 = (2 : Int))) = true then
 some ((), (x1, (((2 : Int), zd27), ())))
 else
 if (decide (v2.1 = (3 : Int))) = true then
 some ((), (x1, (((3 : Int), zd27), ())))
 else
 if (decide (v2.1 = (4 : Int))) = true then
 some ((), (x1, (((4 : Int), zd27), ())))
 else
 if (decide ((0 : Int) <= x2.2.2.2.1)) = true then
 if (decide (x2.2.2.2.1 < ((length x1.1 : Nat) : Int))) = true then
 if (spec_RowPut.pre (List.getD x1.1 (Int.toNat x2.2.2.2.1) zd9) x2.2.2.2.2.2.2.1 x2.2.2.2.2.2.2.2.1 x2.1 x1.2.2.2.1) = true then
 letB (RowPut (List.getD x1.1 (Int.toNat x2.2.2.2.1) zd9) x2.2.2.2.2.2.2.1 x2.2.2.2.2.2.2.2.1 x2.1 x1.2.2.2.1) fun v3 =>
 if (!v3.2.2) = true then
 some ((), (x1, (((8 : Int), zd27), ())))
 else
 if (decide ((0 : Int) <= x2.2.2.2.1)) = true then
 if (decide (x2.2.2.2.1 < ((length x1.1 : Nat) : Int))) = true then
 if (spec_MakerPut.pre v1 x0.2.1 x2.2.2.2.2.2.1 x2.2.2.2.2.1 v3.2.1) = true then
 letB (MakerPut v1 x0.2.1 x2.2.2.2.2.2.1 x2.2.2.2.2.1 v3.2.1) fun v4 =>
 if (spec_MakerSet.pre x1.2.1 v4) = true then
 letB (MakerSet x1.2.1 v4) fun v5 =>
 some ((), (((List.modify x1.1 (Int.toNat x2.2.2.2.1) (fun z => v3.1)), (v5, x1.2.2)), (((0 : Int), (v3.2.1, (([] : List UInt8), (([] : List UInt8), ())))), ())))
 else
 none
 else
 none
 else
 none
 else
 none
 else
 none
 else
 none
 else
 none
 else
 none
 else
 none
theorem eq (x0 : Setup) (x1 : Keep) (x2 : Cmd) (_ : wf x0 x1 x2) (hp : pre x0 x1 x2 = true) : raw x0 x1 x2 = some ((), ((doPut x0 x1 x2).1, ((doPut x0 x1 x2).2, ()))) := by
 obtain ⟨⟨hk, hc, hw⟩, hA⟩ := B_iff.1 hp
 obtain ⟨⟨h0, h1, h2, h3, h4, h5, h6⟩, k1, k2, k3, k4, k5⟩ := hk
 have hs := setup_facts h0
 have cf := cmd_facts hc hw
 have hA0 := cf.2.2.2.1.1
 have hAl : x2.2.2.2.1 < (x1.1.length : Int) := by omega
 have hr : RowOk (rowOf x1 x2) = true := k1 _ (getD_mem (by omega) _)
 have hms := mks_S (by omega) k5
 have hmk := makerOf_P (row := x2.2.2.2.1) (who := x2.1) (w := x0.2.1) (fun m hm => (k5.1 m hm).1) ⟨hA0, by omega⟩ ⟨hw, cf.1⟩ (by omega)
 refine W_eq2 ?_
 unfold raw
 refine W_if (show spec_MakerOf.pre _ _ _ = true from hms) (W_let (W_if (show spec_MakerAsk.pre _ _ _ = true from MakerOf_S hms) (W_let ?_)))
 show Wp (if decide ((MakerAsk (mkOf x1 x2) x2.2.2.2.2.2.1 x2.2.2.2.2.1).1 = 1) = true then some ((), (x1, (ansN 1 (MakerAsk (mkOf x1 x2) x2.2.2.2.2.2.1 x2.2.2.2.2.1).2, ()))) else _) (fun r => (r.2.1, r.2.2.1) = doPut x0 x1 x2)
 unfold doPut
 refine W_ite (fun c1 => ?_) fun c1 => ?_
 . rw [Za] at c1; rw [if_pos c1]; exact W_some rfl
 rw [Za] at c1; rw [if_neg c1]
 refine W_ite (fun c2 => ?_) fun c2 => ?_
 . rw [Za] at c2
   rw [if_pos (show (MakerAsk (mkOf x1 x2) x2.2.2.2.2.2.1 x2.2.2.2.2.1).1 = 2 from c2)]; exact W_some rfl
 rw [Za] at c2; rw [if_neg (show ¬ (MakerAsk (mkOf x1 x2) x2.2.2.2.2.2.1 x2.2.2.2.2.1).1 = 2 from c2)]
 refine W_ite (fun c3 => ?_) fun c3 => ?_
 . rw [Za] at c3
   rw [if_pos (show (MakerAsk (mkOf x1 x2) x2.2.2.2.2.2.1 x2.2.2.2.2.1).1 = 3 from c3)]; exact W_some rfl
 rw [Za] at c3; rw [if_neg (show ¬ (MakerAsk (mkOf x1 x2) x2.2.2.2.2.2.1 x2.2.2.2.2.1).1 = 3 from c3)]
 refine W_ite (fun c4 => ?_) fun c4 => ?_
 . rw [Za] at c4
   rw [if_pos (show (MakerAsk (mkOf x1 x2) x2.2.2.2.2.2.1 x2.2.2.2.2.1).1 = 4 from c4)]; exact W_some rfl
 rw [Za] at c4; rw [if_neg (show ¬ (MakerAsk (mkOf x1 x2) x2.2.2.2.2.2.1 x2.2.2.2.2.1).1 = 4 from c4)]
 refine W_if (Zd hA0) (W_if (Zd hAl) (W_if (show spec_RowPut.pre (rowOf x1 x2) _ _ _ _ = true from (row_S hr).1) (W_let ?_)))
 show Wp (if (!(putRes x0 x1 x2).2.2) = true then _ else _) _
 cases hb : (putRes x0 x1 x2).2.2
 . exact W_if rfl (W_some rfl)
 refine W_else (by decide) (W_if (Zd hA0) (W_if (Zd hAl) (W_if (show spec_MakerPut.pre (mkOf x1 x2) _ _ _ _ = true from MakerOf_S hms) (W_let (W_if ?_ (W_let (W_some rfl)))))))
 show (mksS x1.2.1 && small (MakerPut (mkOf x1 x2) x0.2.1 x2.2.2.2.2.2.1 x2.2.2.2.2.1 (putRes x0 x1 x2).2.1).2.2.2.2.1) = true
 rw [hms, MakerPut_S]; rfl
 have := hmk.1.1.2.2.2.2.2.2.2.2.1
 show (MakerOf _ _ _).2.2.2.2.1.length <= 1000
 omega
end spec_l6Put
abbrev spec_l6Put := doPut
theorem mks_other {s : Setup} {rows rows' : List Row} {ms : List Maker} (h : mksP s rows ms) (hr : ∀ j, (rows.getD j zd9).2.1 <= (rows'.getD j zd9).2.1) : mksP s rows' ms :=
 ⟨fun m hm => ⟨(h.1 m hm).1, (h.1 m hm).2.1, fun x hx => Int.lt_of_lt_of_le ((h.1 m hm).2.2 x hx) (hr _)⟩, h.2⟩
theorem setRow_ok {s : Setup} {k : Keep} {i : Int} {r : Row} (h : KeepP s k) (hi : 0 <= i) (hl : i < s.1) (hr : RowOk r = true) (hn : (k.1.getD i.toNat zd9).2.1 <= r.2.1) : KeepP s (setRow k i r) := by
 obtain ⟨⟨h0, h1, h2, h3, h4, h5, h6⟩, k1, k2, k3, k4, k5⟩ := h
 refine ⟨⟨h0, by show ((k.1.modify _ _).length : Int) = s.1; rw [List.length_modify]; exact h1, h2, h3, h4, h5, h6⟩, fun x hx => ?_, k2, k3, k4, mks_other k5 fun j => ?_⟩
 . rcases mem_modify hx with rfl | hx
   . exact hr
   . exact k1 x hx
 . show _ <= ((k.1.modify i.toNat (fun _ => r)).getD j zd9).2.1
   by_cases e : i.toNat = j
   . subst e
     rw [getD_modify (by omega)]; exact hn
   . rw [getD_modify_ne e]; exact Int.le_refl _
theorem rowPut_facts {x : Row} {key text : List UInt8} {who t : Int} (hx : RowOk x = true) (h : (RowPut x key text who t).2.2 = true) : (RowPut x key text who t).2.1 = x.2.1 /\ RowOk (RowPut x key text who t).1 = true /\ (RowPut x key text who t).1.2.1 = x.2.1 + 1 /\ 0 <= x.2.1 /\ x.2.1 < 100000 := by
 unfold RowPut at h ⊢
 split at h
 . rename_i hc
   rw [if_pos hc]
   rw [Zb] at hc
   have h1 := (rowOk_iff.1 hx).1
   have h2 := (rowOk_iff.1 hc.2).1
   have e : (newRow x key text who t).2.1 = x.2.1 + 1 := w64 (n := x.2.1 + 1) (by omega) (by omega)
   rw [e] at h2
   exact ⟨rfl, hc.2, e, by omega, by omega⟩
 . cases h
theorem ask_ok {m : Maker} {w e q : Int} (h : makerP m w) (h1 : (MakerAsk m e q).1 = 1) : 0 <= (MakerAsk m e q).2 /\ (MakerAsk m e q).2 <= 100000 := by
 unfold MakerAsk at h1 ⊢
 repeat' split
 all_goals first
  | exact ⟨by decide, by decide⟩
  | skip
 rename_i x hx
 exact h.2.2.1 x (List.mem_of_find?_eq_some hx)
theorem doPut_ok {s : Setup} {k : Keep} {c : Cmd} (h : cmdP s k c) (hA : c.2.2.2.1 < s.1) : KeepP s (doPut s k c).1 /\ AnswerOk (doPut s k c).2 = true := by
 obtain ⟨hk, hc, hw⟩ := h
 have hk' := hk
 obtain ⟨⟨h0, h1, h2, h3, h4, h5, h6⟩, k1, k2, k3, k4, k5⟩ := hk'
 have hs := setup_facts h0
 have cf := cmd_facts hc hw
 have hA0 := cf.2.2.2.1.1
 have hn : c.2.2.2.1.toNat < k.1.length := by omega
 have hr : RowOk (rowOf k c) = true := k1 _ (getD_mem hn _)
 have hmk := makerOf_P (row := c.2.2.2.1) (who := c.1) (w := s.2.1) (fun m hm => (k5.1 m hm).1) ⟨hA0, by omega⟩ ⟨hw, cf.1⟩ (by omega)
 have a0 : ∀ {x : Int}, 0 <= x -> x <= 9 -> AnswerOk (ansN x 0) = true := fun h1 h2 => ans_ok h1 h2 (by omega) (by omega)
 unfold doPut
 split
 . rename_i c1
   have := ask_ok hmk.1 c1
   exact ⟨hk, ans_ok (by omega) (by omega) (by unfold mkOf; omega) this.2⟩
 split
 . exact ⟨hk, a0 (by omega) (by omega)⟩
 split
 . exact ⟨hk, a0 (by omega) (by omega)⟩
 split
 . exact ⟨hk, a0 (by omega) (by omega)⟩
 rename_i c1 c2 c3 c4
 have hask : (MakerAsk (mkOf k c) c.2.2.2.2.2.1 c.2.2.2.2.1).1 = 0 := by
  unfold MakerAsk at c1 c2 c3 c4 ⊢
  repeat' split
  all_goals first
   | rfl
   | (exfalso; simp_all)
 cases hb : (putRes s k c).2.2
 . exact ⟨hk, a0 (by omega) (by omega)⟩
 . have hf := rowPut_facts (who := c.1) (t := k.2.2.2.1) (key := c.2.2.2.2.2.2.1) (text := c.2.2.2.2.2.2.2.1) hr hb
   have hf1 : (putRes s k c).2.1 = (rowOf k c).2.1 := hf.1
   have hf2 : RowOk (putRes s k c).1 = true := hf.2.1
   have hf3 : (putRes s k c).1.2.1 = (rowOf k c).2.1 + 1 := hf.2.2.1
   have hlt : ∀ x ∈ (mkOf k c).2.2.2.2.1, x.2.1 < (rowOf k c).2.1 := by
    intro x hx
    rcases hmk.2.2.2 with h | h
    . have := (k5.1 _ h).2.2 x hx
      rw [hmk.2.1] at this
      exact this
    . rw [show (mkOf k c).2.2.2.2.1 = [] from h] at hx; cases hx
   have hp := makerPut_P (m := mkOf k c) (w := s.2.1) (epoch := c.2.2.2.2.2.1) (seq := c.2.2.2.2.1) (off := (rowOf k c).2.1) hmk.1 (by omega) cf.2.2.2.2.2.1.2 cf.2.2.2.2.1 ⟨hf.2.2.2.1, by have := hf.2.2.2.2; omega⟩ hlt hask
   simp only [cond_true]
   rw [hf1]
   refine ⟨?_, ans_ok (by omega) (by omega) (by have := hf.2.2.2.1; unfold rowOf; unfold rowOf at this; omega) (by have := hf.2.2.2.2; unfold rowOf; unfold rowOf at this; omega)⟩
   have hset := setMk_ok (m := MakerPut (mkOf k c) s.2.1 c.2.2.2.2.2.1 c.2.2.2.2.1 (rowOf k c).2.1) k.2.1 k5.2
   have hk2 := setRow_ok (i := c.2.2.2.1) (r := (putRes s k c).1) hk hA0 hA hf2 (by show (rowOf k c).2.1 <= _; omega)
   obtain ⟨g0, g1, g2, g3, g4, g5⟩ := hk2
   refine ⟨g0, g1, g2, g3, g4, fun m hm => ?_, hset.1⟩
   rcases hset.2 m hm with rfl | hm
   . refine ⟨hp.1, by rw [hp.2.1]; show (MakerOf _ _ _).1 < s.1; rw [hmk.2.1]; exact hA, fun x hx => ?_⟩
     have h1 := hp.2.2.2 x hx
     have e : (MakerPut (mkOf k c) s.2.1 c.2.2.2.2.2.1 c.2.2.2.2.1 (rowOf k c).2.1).1 = c.2.2.2.1 := by rw [hp.2.1]; exact hmk.2.1
     rw [e]
     show x.2.1 < ((k.1.modify c.2.2.2.1.toNat (fun _ => (putRes s k c).1)).getD c.2.2.2.1.toNat zd9).2.1
     rw [getD_modify hn, hf3]
     omega
   . exact g5.1 m hm
def doEpoch (k : Keep) (c : Cmd) : Keep × Answer :=
 if c.2.2.2.2.1 <= (mkOf k c).2.2.1 then (k, ansN 4 (mkOf k c).2.2.1) else ((k.1, (MakerSet k.2.1 (c.2.2.2.1, (c.1, (c.2.2.2.2.1, ((-1 : Int), (([] : List Mark), ()))))), k.2.2)), ansN 0 c.2.2.2.2.1)
namespace spec_l6Epoch
def pre (k : Keep) (_ : Cmd) : Bool := mksS k.2.1
abbrev wf (x0 : zt1) (x1 : Cmd) : Prop := wfA [(.val zk3 .o), (.val zk4 .f)] (x0, (x1, ()))
noncomputable def raw (x0 : zt1) (x1 : Cmd) : Option (Unit × (zt1 × (Answer × Unit))) :=
 if (spec_MakerOf.pre x0.2.1 x1.2.2.2.1 x1.1) = true then
 letB (MakerOf x0.2.1 x1.2.2.2.1 x1.1) fun v1 =>
 if (decide (x1.2.2.2.2.1 <= v1.2.2.1)) = true then
 some ((), (x0, (((4 : Int), (v1.2.2.1, (([] : List UInt8), (([] : List UInt8), ())))), ())))
 else
 if (spec_MakerSet.pre x0.2.1 (x1.2.2.2.1, (x1.1, (x1.2.2.2.2.1, ((-1 : Int), (([] : List Mark), ())))))) = true then
 letB (MakerSet x0.2.1 (x1.2.2.2.1, (x1.1, (x1.2.2.2.2.1, ((-1 : Int), (([] : List Mark), ())))))) fun v2 =>
 some ((), ((x0.1, (v2, x0.2.2)), (((0 : Int), (x1.2.2.2.2.1, (([] : List UInt8), (([] : List UInt8), ())))), ())))
 else
 none
 else
 none
theorem eq (x0 : Keep) (x1 : Cmd) (_ : wf x0 x1) (hp : pre x0 x1 = true) : raw x0 x1 = some ((), ((doEpoch x0 x1).1, ((doEpoch x0 x1).2, ()))) := by
 have hp : mksS x0.2.1 = true := hp
 refine W_eq2 ?_
 unfold raw
 refine W_if (show spec_MakerOf.pre _ _ _ = true from hp) (W_let ?_)
 show Wp (if decide (x1.2.2.2.2.1 <= (mkOf x0 x1).2.2.1) = true then some ((), (x0, (ansN 4 (mkOf x0 x1).2.2.1, ()))) else _) (fun r => (r.2.1, r.2.2.1) = doEpoch x0 x1)
 unfold doEpoch
 refine W_ite (fun c1 => ?_) fun c1 => ?_
 . rw [Za] at c1; rw [if_pos c1]; exact W_some rfl
 . rw [Za] at c1; rw [if_neg c1]
   exact W_if (show (mksS x0.2.1 && small ([] : List Mark)) = true by rw [hp]; rfl) (W_let (W_some rfl))
end spec_l6Epoch
abbrev spec_l6Epoch := doEpoch
theorem doEpoch_ok {s : Setup} {k : Keep} {c : Cmd} (h : cmdP s k c) (hA : c.2.2.2.1 < s.1) : KeepP s (doEpoch k c).1 /\ AnswerOk (doEpoch k c).2 = true := by
 obtain ⟨hk, hc, hw⟩ := h
 have hk' := hk
 obtain ⟨⟨h0, h1, h2, h3, h4, h5, h6⟩, k1, k2, k3, k4, k5⟩ := hk'
 have hs := setup_facts h0
 have cf := cmd_facts hc hw
 have hA0 := cf.2.2.2.1.1
 have hmk := makerOf_P (row := c.2.2.2.1) (who := c.1) (w := s.2.1) (fun m hm => (k5.1 m hm).1) ⟨hA0, by omega⟩ ⟨hw, cf.1⟩ (by omega)
 have he := hmk.1.1
 unfold doEpoch
 split
 . obtain ⟨_, _, _, _, e1, e2, _⟩ := he
   exact ⟨hk, ans_ok (by omega) (by omega) (by show -1 <= (MakerOf _ _ _).2.2.1; omega) e2⟩
 . refine ⟨?_, ans_ok (by omega) (by omega) (by have := cf.2.2.2.2.1; show -1 <= c.2.2.2.2.1; omega) cf.2.2.2.2.1.2⟩
   have hset := setMk_ok (m := (c.2.2.2.1, (c.1, (c.2.2.2.2.1, ((-1 : Int), (([] : List Mark), ())))))) k.2.1 k5.2
   refine ⟨⟨h0, h1, h2, h3, h4, h5, h6⟩, k1, k2, k3, k4, fun m hm => ?_, hset.1⟩
   rcases hset.2 m hm with rfl | hm
   . refine ⟨⟨⟨hA0, by show c.2.2.2.1 <= 3; omega, hw, cf.1, cf.2.2.2.2.1.1, cf.2.2.2.2.1.2, Int.le_refl _, by show (-1 : Int) <= 100000; omega, by show (0 : Int) <= s.2.1; omega, by show (0 : Int) <= -1 + 1; omega, fun h => absurd h (by show ¬ (0 : Int) <= -1; omega)⟩, fun j hj => absurd hj (Nat.not_lt_zero _), fun x hx => absurd hx List.not_mem_nil, List.Pairwise.nil⟩, hA, fun x hx => absurd hx List.not_mem_nil⟩
   . exact k5.1 m hm
def doRow (s : Setup) (k : Keep) (c : Cmd) : Keep × Answer :=
 if c.2.2.1 = 1 then doPut s k c
 else if c.2.2.1 = 3 then doEpoch k c
 else if c.2.2.1 = 2 then (if (RowGet (rowOf k c) c.2.2.2.2.1).2 = 1 then (k, ansN 6 0) else if (RowGet (rowOf k c) c.2.2.2.2.1).2 = 2 then (k, ansN 7 0)
  else (k, (0, ((RowGet (rowOf k c) c.2.2.2.2.1).1.1, ((RowGet (rowOf k c) c.2.2.2.2.1).1.2.1, ((RowGet (rowOf k c) c.2.2.2.2.1).1.2.2.1, ()))))))
 else if c.2.2.1 = 9 then (setRow k c.2.2.2.1 (RowTrim (rowOf k c) s.2.2.1 s.2.2.2.1), ansN 0 (RowTrim (rowOf k c) s.2.2.1 s.2.2.2.1).1)
 else (setRow k c.2.2.2.1 (RowPack (rowOf k c) s.2.2.1), ansN 0 (RowPack (rowOf k c) s.2.2.1).1)
namespace spec_l6Row
noncomputable def pre (s : Setup) (k : Keep) (c : Cmd) : Bool := B (cmdP s k c /\ c.2.2.2.1 < s.1)
abbrev wf (x0 : Setup) (x1 : zt1) (x2 : Cmd) : Prop := wfA [(.val zk32 .f), (.val zk3 .o), (.val zk4 .f)] (x0, (x1, (x2, ())))
noncomputable def raw (x0 : Setup) (x1 : zt1) (x2 : Cmd) : Option (Unit × (zt1 × (Answer × Unit))) :=
 if (decide (x2.2.2.1 = (1 : Int))) = true then
 if (spec_l6Put.pre x0 x1 x2) = true then
 letB (doPut x0 x1 x2) fun v1 =>
 some ((), (v1.1, (v1.2, ())))
 else
 none
 else
 if (decide (x2.2.2.1 = (3 : Int))) = true then
 if (spec_l6Epoch.pre x1 x2) = true then
 letB (doEpoch x1 x2) fun v2 =>
 some ((), (v2.1, (v2.2, ())))
 else
 none
 else
 if (decide (x2.2.2.1 = (2 : Int))) = true then
 if (decide ((0 : Int) <= x2.2.2.2.1)) = true then
 if (decide (x2.2.2.2.1 < ((length x1.1 : Nat) : Int))) = true then
 if (spec_RowGet.pre (List.getD x1.1 (Int.toNat x2.2.2.2.1) zd9) x2.2.2.2.2.1) = true then
 letB (RowGet (List.getD x1.1 (Int.toNat x2.2.2.2.1) zd9) x2.2.2.2.2.1) fun v3 =>
 if (decide (v3.2 = (1 : Int))) = true then
 some ((), (x1, (((6 : Int), zd27), ())))
 else
 if (decide (v3.2 = (2 : Int))) = true then
 some ((), (x1, (((7 : Int), zd27), ())))
 else
 some ((), (x1, (((0 : Int), (v3.1.1, (v3.1.2.1, (v3.1.2.2.1, ())))), ())))
 else
 none
 else
 none
 else
 none
 else
 if (decide (x2.2.2.1 = (9 : Int))) = true then
 if (decide ((0 : Int) <= x2.2.2.2.1)) = true then
 if (decide (x2.2.2.2.1 < ((length x1.1 : Nat) : Int))) = true then
 if (spec_RowTrim.pre (List.getD x1.1 (Int.toNat x2.2.2.2.1) zd9) x0.2.2.1 x0.2.2.2.1) = true then
 if (decide ((0 : Int) <= x2.2.2.2.1)) = true then
 if (decide (x2.2.2.2.1 < ((length x1.1 : Nat) : Int))) = true then
 if (decide ((0 : Int) <= x2.2.2.2.1)) = true then
 if (decide (x2.2.2.2.1 < ((length (List.modify x1.1 (Int.toNat x2.2.2.2.1) (fun z => (RowTrim (List.getD x1.1 (Int.toNat x2.2.2.2.1) zd9) x0.2.2.1 x0.2.2.2.1))) : Nat) : Int))) = true then
 some ((), (((List.modify x1.1 (Int.toNat x2.2.2.2.1) (fun z => (RowTrim (List.getD x1.1 (Int.toNat x2.2.2.2.1) zd9) x0.2.2.1 x0.2.2.2.1))), x1.2), (((0 : Int), ((List.getD (List.modify x1.1 (Int.toNat x2.2.2.2.1) (fun z => (RowTrim (List.getD x1.1 (Int.toNat x2.2.2.2.1) zd9) x0.2.2.1 x0.2.2.2.1))) (Int.toNat x2.2.2.2.1) zd9).1, (([] : List UInt8), (([] : List UInt8), ())))), ())))
 else
 none
 else
 none
 else
 none
 else
 none
 else
 none
 else
 none
 else
 none
 else
 if (decide ((0 : Int) <= x2.2.2.2.1)) = true then
 if (decide (x2.2.2.2.1 < ((length x1.1 : Nat) : Int))) = true then
 if (spec_RowPack.pre (List.getD x1.1 (Int.toNat x2.2.2.2.1) zd9) x0.2.2.1) = true then
 if (decide ((0 : Int) <= x2.2.2.2.1)) = true then
 if (decide (x2.2.2.2.1 < ((length x1.1 : Nat) : Int))) = true then
 if (decide ((0 : Int) <= x2.2.2.2.1)) = true then
 if (decide (x2.2.2.2.1 < ((length (List.modify x1.1 (Int.toNat x2.2.2.2.1) (fun z => (RowPack (List.getD x1.1 (Int.toNat x2.2.2.2.1) zd9) x0.2.2.1))) : Nat) : Int))) = true then
 some ((), (((List.modify x1.1 (Int.toNat x2.2.2.2.1) (fun z => (RowPack (List.getD x1.1 (Int.toNat x2.2.2.2.1) zd9) x0.2.2.1))), x1.2), (((0 : Int), ((List.getD (List.modify x1.1 (Int.toNat x2.2.2.2.1) (fun z => (RowPack (List.getD x1.1 (Int.toNat x2.2.2.2.1) zd9) x0.2.2.1))) (Int.toNat x2.2.2.2.1) zd9).1, (([] : List UInt8), (([] : List UInt8), ())))), ())))
 else
 none
 else
 none
 else
 none
 else
 none
 else
 none
 else
 none
 else
 none
theorem eq (x0 : Setup) (x1 : Keep) (x2 : Cmd) (_ : wf x0 x1 x2) (hp : pre x0 x1 x2 = true) : raw x0 x1 x2 = some ((), ((doRow x0 x1 x2).1, ((doRow x0 x1 x2).2, ()))) := by
 obtain ⟨⟨hk, hc, hw⟩, hA⟩ := B_iff.1 hp
 obtain ⟨⟨h0, h1, h2, h3, h4, h5, h6⟩, k1, k2, k3, k4, k5⟩ := hk
 have hs := setup_facts h0
 have cf := cmd_facts hc hw
 have hA0 := cf.2.2.2.1.1
 have hAl : x2.2.2.2.1 < (x1.1.length : Int) := by omega
 have hn : x2.2.2.2.1.toNat < x1.1.length := by omega
 have hr : RowOk (rowOf x1 x2) = true := k1 _ (getD_mem hn _)
 have hrs := (row_S hr).2
 have ml : ∀ g : Row, decide (x2.2.2.2.1 < (((x1.1.modify x2.2.2.2.1.toNat (fun _ => g)).length : Nat) : Int)) = true := fun g => by rw [List.length_modify]; exact Zd hAl
 refine W_eq2 ?_
 unfold raw doRow
 refine W_ite (fun c1 => ?_) fun c1 => ?_
 . rw [Za] at c1; rw [if_pos c1]
   exact W_if (show spec_l6Put.pre x0 x1 x2 = true from hp) (W_let (W_some rfl))
 rw [Za] at c1; rw [if_neg c1]
 refine W_ite (fun c2 => ?_) fun c2 => ?_
 . rw [Za] at c2; rw [if_pos c2]
   exact W_if (show spec_l6Epoch.pre x1 x2 = true from mks_S (by omega) k5) (W_let (W_some rfl))
 rw [Za] at c2; rw [if_neg c2]
 refine W_ite (fun c3 => ?_) fun c3 => ?_
 . rw [Za] at c3; rw [if_pos c3]
   refine W_if (Zd hA0) (W_if (Zd hAl) (W_if (show spec_RowGet.pre (rowOf x1 x2) _ = true from hrs) (W_let (W_ite (fun d1 => ?_) fun d1 => ?_))))
   . rw [Za] at d1; rw [if_pos (show (RowGet (rowOf x1 x2) x2.2.2.2.2.1).2 = 1 from d1)]; exact W_some rfl
   rw [Za] at d1; rw [if_neg (show ¬ (RowGet (rowOf x1 x2) x2.2.2.2.2.1).2 = 1 from d1)]
   refine W_ite (fun d2 => ?_) fun d2 => ?_
   . rw [Za] at d2; rw [if_pos (show (RowGet (rowOf x1 x2) x2.2.2.2.2.1).2 = 2 from d2)]; exact W_some rfl
   rw [Za] at d2; rw [if_neg (show ¬ (RowGet (rowOf x1 x2) x2.2.2.2.2.1).2 = 2 from d2)]
   exact W_some rfl
 rw [Za] at c3; rw [if_neg c3]
 refine W_ite (fun c4 => ?_) fun c4 => ?_
 . rw [Za] at c4; rw [if_pos c4]
   refine W_if (Zd hA0) (W_if (Zd hAl) (W_if (show spec_RowTrim.pre (rowOf x1 x2) _ _ = true from hrs) (W_if (Zd hA0) (W_if (Zd hAl) (W_if (Zd hA0) (W_if (ml _) (W_some ?_)))))))
   show (setRow x1 x2.2.2.2.1 (RowTrim (rowOf x1 x2) x0.2.2.1 x0.2.2.2.1), ansN 0 ((x1.1.modify x2.2.2.2.1.toNat (fun _ => RowTrim (rowOf x1 x2) x0.2.2.1 x0.2.2.2.1)).getD x2.2.2.2.1.toNat zd9).1) = _
   rw [getD_modify hn]
 . rw [Za] at c4; rw [if_neg c4]
   refine W_if (Zd hA0) (W_if (Zd hAl) (W_if (show spec_RowPack.pre (rowOf x1 x2) _ = true from hrs) (W_if (Zd hA0) (W_if (Zd hAl) (W_if (Zd hA0) (W_if (ml _) (W_some ?_)))))))
   show (setRow x1 x2.2.2.2.1 (RowPack (rowOf x1 x2) x0.2.2.1), ansN 0 ((x1.1.modify x2.2.2.2.1.toNat (fun _ => RowPack (rowOf x1 x2) x0.2.2.1)).getD x2.2.2.2.1.toNat zd9).1) = _
   rw [getD_modify hn]
end spec_l6Row
abbrev spec_l6Row := doRow
theorem rowGet_item {x : Row} {off : Int} (h1 : ¬ (RowGet x off).2 = 1) (h2 : ¬ (RowGet x off).2 = 2) : (RowGet x off).1 ∈ x.2.2.1 := by
 unfold RowGet at h1 h2 ⊢
 split at h1
 . exact absurd rfl h1
 . rename_i hc
   rw [if_neg hc] at h2 ⊢
   cases hf : x.2.2.1.find? (fun it => decide (off <= it.1)) with
   | none => rw [hf] at h2; exact absurd rfl h2
   | some it => exact List.mem_of_find?_eq_some hf
theorem doRow_ok {s : Setup} {k : Keep} {c : Cmd} (h : cmdP s k c) (hA : c.2.2.2.1 < s.1) : KeepP s (doRow s k c).1 /\ AnswerOk (doRow s k c).2 = true := by
 have h' := h
 obtain ⟨hk, hc, hw⟩ := h'
 have hk' := hk
 obtain ⟨⟨h0, h1, h2, h3, h4, h5, h6⟩, k1, k2, k3, k4, k5⟩ := hk'
 have hs := setup_facts h0
 have cf := cmd_facts hc hw
 have hA0 := cf.2.2.2.1.1
 have hr : RowOk (rowOf k c) = true := k1 _ (getD_mem (by omega) _)
 have hr' := rowOk_iff.1 hr
 have st : ∀ r : Row, RowOk r = true -> AnswerOk (ansN 0 r.1) = true := fun r hr => by
  have := (rowOk_iff.1 hr).1
  exact ans_ok (by omega) (by omega) (by omega) (by omega)
 unfold doRow
 split
 . exact doPut_ok h hA
 split
 . exact doEpoch_ok h hA
 split
 . split
   . exact ⟨hk, ans_ok (by omega) (by omega) (by omega) (by omega)⟩
   split
   . exact ⟨hk, ans_ok (by omega) (by omega) (by omega) (by omega)⟩
   . rename_i d1 d2
     have hit := hr'.2.1 _ (rowGet_item d1 d2)
     have hi := hit.2.2
     simp only [itOk, Zb] at hi
     refine ⟨hk, ?_⟩
     simp only [AnswerOk, impl_within, Zb, Za]
     exact ⟨⟨by omega, by omega⟩, ⟨by have := hr'.1; omega, by have := hr'.1; omega⟩, hi.1, hi.2.1⟩
 split
 . have ht := rowTrim_ok (keep := s.2.2.2.1) hr hs.2.2.2.2.2.1
   exact ⟨setRow_ok hk hA0 hA ht.1 (by show (rowOf k c).2.1 <= _; rw [ht.2]; exact Int.le_refl _), st _ ht.1⟩
 . have ht := rowPack_ok (len := s.2.2.1) hr
   exact ⟨setRow_ok hk hA0 hA ht.1 (by show (rowOf k c).2.1 <= _; rw [ht.2]; exact Int.le_refl _), st _ ht.1⟩
def minI (a b : Int) : Int := if a < b then a else b
namespace spec_l1Min
abbrev wf (x0 : Int) (x1 : Int) : Prop := wfA [(.val (.int .i64) .f), (.val (.int .i64) .f)] (x0, (x1, ()))
noncomputable def raw (x0 : Int) (x1 : Int) : Option (Unit × (Int × Unit)) :=
 if (decide (x0 < x1)) = true then
 some ((), (x0, ()))
 else
 some ((), (x1, ()))
theorem eq (x0 x1 : Int) (_ : wf x0 x1) : raw x0 x1 = some ((), (minI x0 x1, ())) := by
 unfold raw minI
 by_cases h : x0 < x1
 . rw [if_pos (Zd h), if_pos h]
 . rw [if_neg (by rw [Za]; exact h), if_neg h]
end spec_l1Min
abbrev spec_l1Min := minI
def tickT (k : Keep) (c : Cmd) : Int := minI 100000 (k.2.2.2.1 + c.2.2.2.1)
def doNew (s : Setup) (k : Keep) (c : Cmd) : Keep × Answer :=
 if c.2.2.1 = 8 then ((k.1, (k.2.1, (k.2.2.1.map (fun g => GroupTick g (tickT k c)), (tickT k c, k.2.2.2.2)))), ansN 0 (tickT k c))
 else if impl_within c.2.2.1 4 7 = true then (if 2 <= c.2.2.2.1 then (k, ansN 9 0) else doGroup s k c)
 else if s.1 <= c.2.2.2.1 then (k, ansN 5 0) else doRow s k c
theorem tickT_ok {s : Setup} {k : Keep} {c : Cmd} (h : cmdP s k c) : 0 <= tickT k c /\ tickT k c <= 100000 := by
 obtain ⟨⟨⟨h0, h1, h2, h3, h4, h5, h6⟩, _⟩, hc, hw⟩ := h
 have := (cmd_facts hc hw).2.2.2.1
 unfold tickT minI
 split <;> omega
theorem tickP_of {g : Group} {rows t : Int} (h : GroupOk g rows = true) (hr : rows <= 4) (h0 : 0 <= t) (h1 : t <= 100000) : tickP g t = true := by
 have hg := groupOk_iff.1 h
 exact tickP_iff.2 ⟨(groupOk_S h hr).1, hg.1.1, h0, h1, hg.2.2.2.1⟩
namespace spec_l6New
abbrev S4 : Type := (Int × zt22)
abbrev O4 : Type := zt22
def pre4 : S4 -> Bool := fun (x1, x2, _, _, _, x6, _) => decide (0 <= x1) && (decide (x1 <= (x6.length : Int)) && (decide (x6.length <= 1000) && (x6.drop x1.toNat).all fun g => tickP g x2))
def mu4 : S4 -> Nat := fun (x1, _, _, _, _, x6, _) => x6.length - x1.toNat
def fn4 : S4 -> O4 := fun (x1, x2, x3, x4, x5, x6, x7) => (x2, x3, x4, x5, x6.take x1.toNat ++ (x6.drop x1.toNat).map (fun g => GroupTick g x2), x7)
noncomputable def raw4 (x1 : Int) (x2 : Int) (x3 : Unit) (x4 : (List Row)) (x5 : (List Maker)) (x6 : (List Group)) (x7 : (List Int)) (x8 : (List Answer)) (x9 : Int) (x10 : Unit) (x11 : (List Row)) (x12 : (List Maker)) (x13 : (List Group)) (x14 : (List Int)) (x15 : (List Answer)) (x16 : Answer) : Option ((Int × zt22) ⊕ zt22) :=
 if (decide (x1 < ((length x6 : Nat) : Int))) = true then
 if (decide ((0 : Int) <= x1)) = true then
 if (decide (x1 < ((length x6 : Nat) : Int))) = true then
 if (spec_GroupTick.pre (List.getD x6 (Int.toNat x1) zd8) x2) = true then
 if (decide ((0 : Int) <= x1)) = true then
 if (decide (x1 < ((length x6 : Nat) : Int))) = true then
 some (.inl ((wrap .i64 (x1 + (1 : Int))), (x2, (x3, (x4, (x5, ((List.modify x6 (Int.toNat x1) (fun z => (GroupTick (List.getD x6 (Int.toNat x1) zd8) x2))), (x7, (x8, (x9, (x10, (x11, (x12, (x13, (x14, (x15, (x16, ())))))))))))))))))
 else
 none
 else
 none
 else
 none
 else
 none
 else
 none
 else
 some (.inr (x2, (x3, (x4, (x5, (x6, (x7, (x8, (x9, (x10, (x11, (x12, (x13, (x14, (x15, (x16, ()))))))))))))))))
abbrev wf (x0 : Setup) (x1 : zt1) (x2 : Cmd) : Prop := wfA [(.val zk32 .f), (.val zk3 .o), (.val zk4 .f)] (x0, (x1, (x2, ())))
noncomputable def raw (x0 : Setup) (x1 : zt1) (x2 : Cmd) : Option (Unit × (zt1 × (Answer × Unit))) :=
 if (decide (x2.2.2.1 = (8 : Int))) = true then
 letB (minI (100000 : Int) (wrap .i64 (x1.2.2.2.1 + x2.2.2.2.1))) fun v1 =>
 if (spec_l6New.pre4 ((0 : Int), (v1, (x1.2.2.2.2.2.2, (x1.1, (x1.2.1, (x1.2.2.1, (x1.2.2.2.2.1, (x1.2.2.2.2.2.1, ((0 : Int), ((), (([] : List Row), (([] : List Maker), (([] : List Group), (([] : List Int), (([] : List Answer), (zd7, ()))))))))))))))))) = true then
 letB (spec_l6New.fn4 ((0 : Int), (v1, (x1.2.2.2.2.2.2, (x1.1, (x1.2.1, (x1.2.2.1, (x1.2.2.2.2.1, (x1.2.2.2.2.2.1, ((0 : Int), ((), (([] : List Row), (([] : List Maker), (([] : List Group), (([] : List Int), (([] : List Answer), (zd7, ()))))))))))))))))) fun v2 =>
 some ((), ((v2.2.2.1, (v2.2.2.2.1, (v2.2.2.2.2.1, (v2.1, (v2.2.2.2.2.2.1, (v2.2.2.2.2.2.2.1, v2.2.1)))))), (((0 : Int), (v2.1, (([] : List UInt8), (([] : List UInt8), ())))), ())))
 else
 none
 else
 letB (impl_within x2.2.2.1 (4 : Int) (7 : Int)) fun v3 =>
 if v3 = true then
 if (decide ((2 : Int) <= x2.2.2.2.1)) = true then
 some ((), (x1, (((9 : Int), zd27), ())))
 else
 if (spec_l6Group.pre x0 x1 x2) = true then
 letB (doGroup x0 x1 x2) fun v4 =>
 some ((), (v4.1, (v4.2, ())))
 else
 none
 else
 if (decide (x0.1 <= x2.2.2.2.1)) = true then
 some ((), (x1, (((5 : Int), zd27), ())))
 else
 if (spec_l6Row.pre x0 x1 x2) = true then
 letB (doRow x0 x1 x2) fun v5 =>
 some ((), (v5.1, (v5.2, ())))
 else
 none
theorem ok4 (x1 x2 : Int) (x3 : Unit) (x4 : List Row) (x5 : List Maker) (x6 : List Group) (x7 : List Int) (x8 : List Answer) (x9 : Int) (x10 : Unit) (x11 : List Row) (x12 : List Maker) (x13 : List Group) (x14 : List Int) (x15 : List Answer) (x16 : Answer) (hp : pre4 (x1, (x2, (x3, (x4, (x5, (x6, (x7, (x8, (x9, (x10, (x11, (x12, (x13, (x14, (x15, (x16, ())))))))))))))))) = true) :
 Rounds pre4 mu4 fn4 (x1, (x2, (x3, (x4, (x5, (x6, (x7, (x8, (x9, (x10, (x11, (x12, (x13, (x14, (x15, (x16, ())))))))))))))))) (raw4 x1 x2 x3 x4 x5 x6 x7 x8 x9 x10 x11 x12 x13 x14 x15 x16) := by
 simp only [pre4, Zb, Za, Zu] at hp
 obtain ⟨h1, h2, h3, h4⟩ := hp
 unfold raw4
 by_cases hlt : x1 < (x6.length : Int)
 . have hn : x1.toNat < x6.length := by omega
   have e1 := Zn hn
   have ht : tickP x6[x1.toNat] x2 = true := h4 _ (by rw [e1]; exact List.mem_cons_self)
   have es : (x1 + 1).toNat = x1.toNat + 1 := by omega
   rw [getD_get hn, w64 (n := x1 + 1) (by omega) (by omega), modify_const]
   refine R_if (Zd hlt) (R_if (Zd h1) (R_if (Zd hlt) (R_if (show spec_GroupTick.pre _ _ = true from ht) (R_if (Zd h1) (R_if (Zd hlt) ⟨?_, ?_, ?_⟩)))))
   . simp only [pre4, Zb, Za, Zu, List.length_set, es]
     refine ⟨by omega, by omega, h3, fun g hg => h4 g ?_⟩
     rw [List.drop_set_of_lt (by omega)] at hg
     rw [e1]; exact Zo _ hg
   . simp only [mu4, List.length_set]; omega
   . simp only [fn4, es]
     rw [List.drop_set_of_lt (by omega), e1, List.take_add_one, List.getElem?_set_self hn, List.take_set_of_le (Nat.le_refl _)]
     simp only [Option.toList, List.map_cons, Zk, List.cons_append, List.nil_append]
 . refine R_else (by rw [Za]; exact hlt) ?_
   simp only [Rounds, fn4]
   rw [Zt (by omega), List.take_of_length_le (by omega)]
   simp
noncomputable def pre (s : Setup) (k : Keep) (c : Cmd) : Bool := B (cmdP s k c)
theorem eq (x0 : Setup) (x1 : Keep) (x2 : Cmd) (_ : wf x0 x1 x2) (hp : pre x0 x1 x2 = true) : raw x0 x1 x2 = some ((), ((doNew x0 x1 x2).1, ((doNew x0 x1 x2).2, ()))) := by
 have hcp := B_iff.1 hp
 obtain ⟨hk, hc, hw⟩ := hcp
 obtain ⟨⟨h0, h1, h2, h3, h4, h5, h6⟩, k1, k2, k3, k4, k5⟩ := hk
 have hs := setup_facts h0
 have cf := cmd_facts hc hw
 have tk := tickT_ok (B_iff.1 hp)
 refine W_eq2 ?_
 unfold raw doNew
 rw [w64 (n := x1.2.2.2.1 + x2.2.2.2.1) (by omega) (by omega)]
 refine W_ite (fun c1 => ?_) fun c1 => ?_
 . rw [Za] at c1; rw [if_pos c1]
   refine W_let (W_if ?_ (W_let (W_some rfl)))
   show (decide ((0 : Int) <= 0) && (decide ((0 : Int) <= (x1.2.2.1.length : Int)) && (decide (x1.2.2.1.length <= 1000) && (x1.2.2.1.drop (Int.toNat 0)).all fun g => tickP g (tickT x1 x2)))) = true
   simp only [Zb, Za, Zu]
   exact ⟨by omega, by omega, by omega, fun g hg => tickP_of (k2 g hg) hs.2.1 tk.1 tk.2⟩
 rw [Za] at c1; rw [if_neg c1]
 refine W_let (W_ite (fun c2 => ?_) fun c2 => ?_)
 . rw [if_pos c2]
   refine W_ite (fun c3 => ?_) fun c3 => ?_
   . rw [Za] at c3; rw [if_pos c3]; exact W_some rfl
   . rw [Za] at c3; rw [if_neg c3]
     exact W_if (B_iff.2 ⟨B_iff.1 hp, by omega⟩) (W_let (W_some rfl))
 . rw [if_neg c2]
   refine W_ite (fun c3 => ?_) fun c3 => ?_
   . rw [Za] at c3; rw [if_pos c3]; exact W_some rfl
   . rw [Za] at c3; rw [if_neg c3]
     exact W_if (B_iff.2 ⟨B_iff.1 hp, by omega⟩) (W_let (W_some rfl))
end spec_l6New
abbrev spec_l6New := doNew
theorem doNew_ok {s : Setup} {k : Keep} {c : Cmd} (h : cmdP s k c) : KeepP s (doNew s k c).1 /\ AnswerOk (doNew s k c).2 = true := by
 have h' := h
 obtain ⟨hk, hc, hw⟩ := h'
 have hk' := hk
 obtain ⟨⟨h0, h1, h2, h3, h4, h5, h6⟩, k1, k2, k3, k4, k5⟩ := hk'
 have tk := tickT_ok h
 unfold doNew
 split
 . refine ⟨⟨⟨h0, h1, by show (k.2.2.1.map _).length = 2; rw [List.length_map]; exact h2, h3, h4, tk.1, tk.2⟩, k1, fun g hg => ?_, k3, k4, k5⟩, ans_ok (by omega) (by omega) (by omega) tk.2⟩
   obtain ⟨g0, hg0, rfl⟩ := List.mem_map.1 hg
   exact groupTick_ok (k2 g0 hg0)
 split
 . split
   . exact ⟨hk, ans_ok (by omega) (by omega) (by omega) (by omega)⟩
   . exact doGroup_ok h (by omega)
 split
 . exact ⟨hk, ans_ok (by omega) (by omega) (by omega) (by omega)⟩
 . exact doRow_ok h (by omega)
def zAns : Answer := zd7
def noted (k : Keep) (c : Cmd) (a : Answer) : Keep := (k.1, (k.2.1, (k.2.2.1, (k.2.2.2.1, (k.2.2.2.2.1.modify c.1.toNat (fun _ => c.2.1), (k.2.2.2.2.2.1.modify c.1.toNat (fun _ => a), k.2.2.2.2.2.2))))))
def doCmd (s : Setup) (k : Keep) (c : Cmd) : Keep × Answer :=
 if c.1 < 0 then (k, zAns)
 else if c.2.1 <= k.2.2.2.2.1.getD c.1.toNat 0 then (k, k.2.2.2.2.2.1.getD c.1.toNat zd7)
 else (noted (doNew s k c).1 c (doNew s k c).2, (doNew s k c).2)
theorem zAns_ok : AnswerOk zAns = true := by decide
theorem noted_ok {s : Setup} {k : Keep} {c : Cmd} {a : Answer} (h : KeepP s k) (hc : CmdOk c = true) (hw : 0 <= c.1) (ha : AnswerOk a = true) : KeepP s (noted k c a) := by
 obtain ⟨⟨h0, h1, h2, h3, h4, h5, h6⟩, k1, k2, k3, k4, k5⟩ := h
 have cf := cmd_facts hc hw
 refine ⟨⟨h0, h1, h2, by show (k.2.2.2.2.1.modify _ _).length = 4; rw [List.length_modify]; exact h3, by show (k.2.2.2.2.2.1.modify _ _).length = 4; rw [List.length_modify]; exact h4, h5, h6⟩, k1, k2, fun d hd => ?_, fun x hx => ?_, k5⟩
 . rcases mem_modify hd with rfl | hd
   . have := cf.2.1; omega
   . exact k3 d hd
 . rcases mem_modify hx with rfl | hx
   . exact ha
   . exact k4 x hx
theorem cmd_none {c : Cmd} (h : CmdOk c = true) : c.1 = -1 \/ 0 <= c.1 := by
 unfold CmdOk at h
 split at h
 . exact .inl ‹_›
 . simp only [Zb] at h
   exact .inr (within_hi h.1).1
theorem doCmd_ok {s : Setup} {k : Keep} {c : Cmd} (hk : KeepP s k) (hc : CmdOk c = true) : KeepP s (doCmd s k c).1 /\ AnswerOk (doCmd s k c).2 = true := by
 unfold doCmd
 split
 . exact ⟨hk, zAns_ok⟩
 have hw : 0 <= c.1 := by rcases cmd_none hc with h | h <;> omega
 have cf := cmd_facts hc hw
 split
 . have hk' := hk
   obtain ⟨⟨h0, h1, h2, h3, h4, h5, h6⟩, k1, k2, k3, k4, k5⟩ := hk'
   exact ⟨hk, k4 _ (getD_mem (by omega) _)⟩
 . have := doNew_ok ⟨hk, hc, hw⟩
   exact ⟨noted_ok this.1 hc hw this.2, this.2⟩
theorem copy_pre {s : Setup} {k : Keep} (h : KeepP s k) : spec_l6Copy.pre k = true := keep_S h
namespace spec_l6Do
noncomputable def pre (s : Setup) (k : Keep) (c : Cmd) : Bool := B (KeepP s k /\ CmdOk c = true)
abbrev wf (x0 : Setup) (x1 : zt1) (x2 : Cmd) : Prop := wfA [(.val zk32 .f), (.val zk3 .f), (.val zk4 .f)] (x0, (x1, (x2, ())))
noncomputable def raw (x0 : Setup) (x1 : zt1) (x2 : Cmd) : Option (Unit × (zt1 × (Answer × Unit))) :=
 if (decide (x2.1 < (0 : Int))) = true then
 if (spec_l6Copy.pre x1) = true then
 letB (spec_l6Copy x1) fun v1 =>
 some ((), (v1, (zd7, ())))
 else
 none
 else
 if (decide ((0 : Int) <= x2.1)) = true then
 if (decide (x2.1 < ((length x1.2.2.2.2.1 : Nat) : Int))) = true then
 if (decide (x2.2.1 <= (List.getD x1.2.2.2.2.1 (Int.toNat x2.1) (0 : Int)))) = true then
 if (spec_l6Copy.pre x1) = true then
 if (decide ((0 : Int) <= x2.1)) = true then
 if (decide (x2.1 < ((length x1.2.2.2.2.2.1 : Nat) : Int))) = true then
 letB (spec_l6Copy x1) fun v2 =>
 some ((), (v2, ((List.getD x1.2.2.2.2.2.1 (Int.toNat x2.1) zd7), ())))
 else
 none
 else
 none
 else
 none
 else
 if (spec_l6Copy.pre x1) = true then
 letB (spec_l6Copy x1) fun v3 =>
 if (spec_l6New.pre x0 v3 x2) = true then
 if (decide ((0 : Int) <= x2.1)) = true then
 letB (doNew x0 v3 x2) fun v4 =>
 if (decide (x2.1 < ((length v4.1.2.2.2.2.1 : Nat) : Int))) = true then
 if (decide ((0 : Int) <= x2.1)) = true then
 if (decide (x2.1 < ((length v4.1.2.2.2.2.2.1 : Nat) : Int))) = true then
 some ((), ((v4.1.1, (v4.1.2.1, (v4.1.2.2.1, (v4.1.2.2.2.1, ((List.modify v4.1.2.2.2.2.1 (Int.toNat x2.1) (fun z => x2.2.1)), ((List.modify v4.1.2.2.2.2.2.1 (Int.toNat x2.1) (fun z => v4.2)), v4.1.2.2.2.2.2.2)))))), (v4.2, ())))
 else
 none
 else
 none
 else
 none
 else
 none
 else
 none
 else
 none
 else
 none
 else
 none
theorem eq (x0 : Setup) (x1 : Keep) (x2 : Cmd) (_ : wf x0 x1 x2) (hp : pre x0 x1 x2 = true) : raw x0 x1 x2 = some ((), ((doCmd x0 x1 x2).1, ((doCmd x0 x1 x2).2, ()))) := by
 obtain ⟨hk, hc⟩ := B_iff.1 hp
 have cp := copy_pre hk
 refine W_eq2 ?_
 unfold raw doCmd
 rw [show spec_l6Copy x1 = x1 from rfl]
 refine W_ite (fun c1 => ?_) fun c1 => ?_
 . rw [Za] at c1; rw [if_pos c1]
   exact W_if cp (W_let (W_some rfl))
 rw [Za] at c1; rw [if_neg c1]
 have hw : 0 <= x2.1 := by omega
 have cf := cmd_facts hc hw
 have hd : x2.1 < (x1.2.2.2.2.1.length : Int) := by have := hk.1.2.2.2.1; omega
 have hl : x2.1 < (x1.2.2.2.2.2.1.length : Int) := by have := hk.1.2.2.2.2.1; omega
 have hcp : cmdP x0 x1 x2 := ⟨hk, hc, hw⟩
 have hn := (doNew_ok hcp).1.1
 refine W_if (Zd hw) (W_if (Zd hd) (W_ite (fun c2 => ?_) fun c2 => ?_))
 . rw [Za] at c2; rw [if_pos c2]
   exact W_if cp (W_if (Zd hw) (W_if (Zd hl) (W_let (W_some rfl))))
 . rw [Za] at c2; rw [if_neg c2]
   refine W_if cp (W_let (W_if (show spec_l6New.pre x0 x1 x2 = true from B_iff.2 hcp) (W_if (Zd hw) (W_let (W_if (Zd (show x2.1 < ((doNew x0 x1 x2).1.2.2.2.2.1.length : Int) by have := hn.2.2.2.1; omega)) (W_if (Zd hw) (W_if (Zd (show x2.1 < ((doNew x0 x1 x2).1.2.2.2.2.2.1.length : Int) by have := hn.2.2.2.2.1; omega)) (W_some rfl))))))))
end spec_l6Do
abbrev spec_l6Do := doCmd
theorem not_true {b : Bool} (h : ¬ b = true) : b = false := by
 cases b
 . rfl
 . exact absurd rfl h
theorem keepNew_P {s : Setup} (h : SetupOk s = true) : KeepP s (KeepNew s) := by
 have hs := setup_facts h
 rw [show KeepNew s = newKeep s.1 from if_pos h]
 refine ⟨⟨h, by show ((List.replicate _ _).length : Int) = s.1; rw [List.length_replicate]; omega, by rfl, by rfl, by rfl, Int.le_refl _, by show (0 : Int) <= 100000; omega⟩, fun r hr => ?_, fun g hg => ?_, fun d hd => ?_, fun a ha => ?_, fun m hm => absurd hm List.not_mem_nil, List.Pairwise.nil⟩
 . rw [List.eq_of_mem_replicate hr]; decide
 . rw [List.eq_of_mem_replicate hg]
   unfold GroupNew
   rw [if_pos (by simp only [impl_within, Zb, Za]; omega)]
   refine groupOk_iff.2 ⟨⟨rfl, by show ((List.replicate _ _).length : Int) = s.1; rw [List.length_replicate]; omega, by omega, by omega⟩, fun m hm => absurd hm List.not_mem_nil, List.Pairwise.nil, fun b hb => absurd hb List.not_mem_nil, fun o ho => ?_⟩
   rw [List.eq_of_mem_replicate ho]; omega
 . rw [List.eq_of_mem_replicate hd]; omega
 . rw [List.eq_of_mem_replicate ha]; decide
def stepC (s : Setup) (k : Keep) (c : Cmd) : Keep × Answer := cond (SetupOk s && CmdOk c) (doCmd s k c) (k, zAns)
def allC (s : Setup) : Keep -> List Answer -> List Cmd -> Keep × List Answer
 | k, out, [] => (k, out)
 | k, out, c :: r => allC s (stepC s k c).1 (out ++ [(stepC s k c).2]) r
def KeepAll (s : Setup) (l : List Cmd) : Keep × List Answer := allC s (KeepNew s) [] l
theorem stepC_ok {s : Setup} {k : Keep} {c : Cmd} (h : SetupOk s = true -> KeepP s k) : (SetupOk s = true -> KeepP s (stepC s k c).1) /\ AnswerOk (stepC s k c).2 = true := by
 unfold stepC
 cases h1 : SetupOk s
 . exact ⟨fun h => (by cases h), zAns_ok⟩
 cases h2 : CmdOk c
 . exact ⟨fun _ => h h1, zAns_ok⟩
 . have := doCmd_ok (h h1) h2
   exact ⟨fun _ => this.1, this.2⟩
theorem allC_ok {s : Setup} : (l : List Cmd) -> (k : Keep) -> (out : List Answer) -> (SetupOk s = true -> KeepP s k) -> out.all AnswerOk = true -> (SetupOk s = true -> KeepP s (allC s k out l).1) /\ (allC s k out l).2.all AnswerOk = true /\ (allC s k out l).2.length = out.length + l.length
 | [], k, out, h, ho => ⟨h, ho, rfl⟩
 | c :: r, k, out, h, ho => by
  have hc := stepC_ok (c := c) h
  have := allC_ok r (stepC s k c).1 (out ++ [(stepC s k c).2]) hc.1 (by rw [List.all_append, ho]; simp [hc.2])
  simp only [allC]
  refine ⟨this.1, this.2.1, ?_⟩
  rw [this.2.2, Zf, Zg, Zg, Zh]; omega
theorem keepAll_ok {s : Setup} {l : List Cmd} : (SetupOk s = true -> KeepP s (KeepAll s l).1) /\ (KeepAll s l).2.all AnswerOk = true /\ (KeepAll s l).2.length = l.length := by
 have := allC_ok (s := s) l (KeepNew s) [] keepNew_P rfl
 refine ⟨this.1, this.2.1, ?_⟩
 rw [show KeepAll s l = allC s (KeepNew s) [] l from rfl, this.2.2, Zh]; omega
namespace spec_KeepAll
abbrev S4 : Type := ((List Cmd) × (Int × (Setup × zt21)))
abbrev O4 : Type := zt21
noncomputable def pre4 : S4 -> Bool := fun (x1, x2, x3, _, _, _, _, _, _, _, x11, x12, x13, x14, x15, x16, x17, x18, _) => small x1 && (decide (0 <= x2) && (decide (x2 <= (x1.length : Int)) && (decide ((x11.length : Int) = x2) && B (SetupOk x3 = true -> KeepP x3 (x14, (x15, (x16, (x12, (x17, (x18, x13)))))))))) 
def mu4 : S4 -> Nat := fun (x1, x2, _) => x1.length - x2.toNat
def Q4 (s : S4) (o : O4) : Prop := match s, o with
 | (x1, x2, x3, _, _, _, _, _, _, _, x11, x12, x13, x14, x15, x16, x17, x18, _), (_, _, _, _, _, _, _, o11, o12, o13, o14, o15, o16, o17, o18, _) =>
  ((o14, (o15, (o16, (o12, (o17, (o18, o13)))))), o11) = allC x3 (x14, (x15, (x16, (x12, (x17, (x18, x13)))))) x11 (x1.drop x2.toNat)
noncomputable def raw4 (x1 : (List Cmd)) (x2 : Int) (x3 : Setup) (x4 : Int) (x5 : Unit) (x6 : (List Row)) (x7 : (List Maker)) (x8 : (List Group)) (x9 : (List Int)) (x10 : (List Answer)) (x11 : (List Answer)) (x12 : Int) (x13 : Unit) (x14 : (List Row)) (x15 : (List Maker)) (x16 : (List Group)) (x17 : (List Int)) (x18 : (List Answer)) : Option (((List Cmd) × (Int × (Setup × zt21))) ⊕ zt21) :=
 if (decide (x2 < ((length x1 : Nat) : Int))) = true then
 letB (SetupOk x3) fun v1 =>
 if v1 = true then
 if (decide ((0 : Int) <= x2)) = true then
 if (decide (x2 < ((length x1 : Nat) : Int))) = true then
 letB (CmdOk (List.getD x1 (Int.toNat x2) ((0 : Int), zd35))) fun v2 =>
 if v2 = true then
 if (decide ((0 : Int) <= x2)) = true then
 if (decide (x2 < ((length x1 : Nat) : Int))) = true then
 if (spec_l6Do.pre x3 (x14, (x15, (x16, (x12, (x17, (x18, x13)))))) (List.getD x1 (Int.toNat x2) ((0 : Int), zd35))) = true then
 letB (doCmd x3 (x14, (x15, (x16, (x12, (x17, (x18, x13)))))) (List.getD x1 (Int.toNat x2) ((0 : Int), zd35))) fun v3 =>
 if (decide (length x11 + length (v3.2 :: ([] : List Answer)) <= lim)) = true then
 some (.inl (x1, ((wrap .i64 (x2 + (1 : Int))), (x3, (x4, (x5, (x6, (x7, (x8, (x9, (x10, ((List.append x11 (v3.2 :: ([] : List Answer))), (v3.1.2.2.2.1, (v3.1.2.2.2.2.2.2, (v3.1.1, (v3.1.2.1, (v3.1.2.2.1, v3.1.2.2.2.2)))))))))))))))))
 else
 none
 else
 none
 else
 none
 else
 none
 else
 if (decide (length x11 + length (zd7 :: ([] : List Answer)) <= lim)) = true then
 some (.inl (x1, ((wrap .i64 (x2 + (1 : Int))), (x3, (x4, (x5, (x6, (x7, (x8, (x9, (x10, ((List.append x11 (zd7 :: ([] : List Answer))), (x12, (x13, (x14, (x15, (x16, (x17, (x18, ())))))))))))))))))))
 else
 none
 else
 none
 else
 none
 else
 if (decide (length x11 + length (zd7 :: ([] : List Answer)) <= lim)) = true then
 some (.inl (x1, ((wrap .i64 (x2 + (1 : Int))), (x3, (x4, (x5, (x6, (x7, (x8, (x9, (x10, ((List.append x11 (zd7 :: ([] : List Answer))), (x12, (x13, (x14, (x15, (x16, (x17, (x18, ())))))))))))))))))))
 else
 none
 else
 some (.inr (x4, (x5, (x6, (x7, (x8, (x9, (x10, (x11, (x12, (x13, (x14, (x15, (x16, (x17, (x18, ()))))))))))))))))
theorem wp4 : ∀ s, pre4 s = true -> Wp ((fun (x : S4) => raw4 x.1 x.2.1 x.2.2.1 x.2.2.2.1 x.2.2.2.2.1 x.2.2.2.2.2.1 x.2.2.2.2.2.2.1 x.2.2.2.2.2.2.2.1 x.2.2.2.2.2.2.2.2.1 x.2.2.2.2.2.2.2.2.2.1 x.2.2.2.2.2.2.2.2.2.2.1 x.2.2.2.2.2.2.2.2.2.2.2.1 x.2.2.2.2.2.2.2.2.2.2.2.2.1 x.2.2.2.2.2.2.2.2.2.2.2.2.2.1 x.2.2.2.2.2.2.2.2.2.2.2.2.2.2.1 x.2.2.2.2.2.2.2.2.2.2.2.2.2.2.2.1 x.2.2.2.2.2.2.2.2.2.2.2.2.2.2.2.2.1 x.2.2.2.2.2.2.2.2.2.2.2.2.2.2.2.2.2.1) s) (Step pre4 mu4 Q4 s) := by
 rintro ⟨x1, x2, x3, x4, x5, x6, x7, x8, x9, x10, x11, x12, x13, x14, x15, x16, x17, x18, ⟨⟩⟩ hp
 simp only [pre4, Zb, Za, B_iff] at hp
 obtain ⟨hs, h1, h2, h3, hk⟩ := hp
 have hs' := small_iff.1 hs
 show Wp (raw4 x1 x2 x3 x4 x5 x6 x7 x8 x9 x10 x11 x12 x13 x14 x15 x16 x17 x18) _
 unfold raw4
 generalize hK : ((x14, (x15, (x16, (x12, (x17, (x18, x13)))))) : Keep) = K at hk ⊢
 have q14 : x14 = K.1 := by rw [<- hK]
 have q15 : x15 = K.2.1 := by rw [<- hK]
 have q16 : x16 = K.2.2.1 := by rw [<- hK]
 have q12 : x12 = K.2.2.2.1 := by rw [<- hK]
 have q17 : x17 = K.2.2.2.2.1 := by rw [<- hK]
 have q18 : x18 = K.2.2.2.2.2.1 := by rw [<- hK]
 clear hK
 subst q14 q15 q16 q12 q17 q18
 by_cases hlt : x2 < (x1.length : Int)
 . have hn : x2.toNat < x1.length := by omega
   have e1 := Zn hn
   rw [getD_get hn, w64 (n := x2 + 1) (by omega) (by omega)]
   have hl : ∀ a : Answer, decide (x11.length + (a :: ([] : List Answer)).length <= lim) = true := fun a => by
    simp only [Za, Zg, Zh, lim]; omega
   have nx : ∀ (K' : Keep) (a : Answer), stepC x3 K x1[x2.toNat] = (K', a) -> Step pre4 mu4 Q4 (x1, x2, x3, x4, x5, x6, x7, x8, x9, x10, x11, K.2.2.2.1, x13, K.1, K.2.1, K.2.2.1, K.2.2.2.2.1, K.2.2.2.2.2.1, ())
    (.inl (x1, ((x2 + 1), (x3, (x4, (x5, (x6, (x7, (x8, (x9, (x10, ((List.append x11 (a :: ([] : List Answer))), (K'.2.2.2.1, ((), (K'.1, (K'.2.1, (K'.2.2.1, (K'.2.2.2.2.1, (K'.2.2.2.2.2.1, ()))))))))))))))))))) := by
    intro K' a he
    have hok := (stepC_ok (c := x1[x2.toNat]) hk).1
    rw [he] at hok
    refine ⟨?_, by simp only [mu4]; omega, ?_⟩
    . simp only [pre4, Zb, Za, B_iff, List.append_eq, Zf, Zg, Zh]
      exact ⟨hs, by omega, by omega, by omega, hok⟩
    . rintro ⟨_, _, _, _, _, _, _, o11, o12, o13, o14, o15, o16, o17, o18, ⟨⟩⟩ ho
      refine ho.trans ?_
      show allC x3 K' (x11 ++ [a]) (x1.drop (x2 + 1).toNat) = allC x3 K x11 (x1.drop x2.toNat)
      rw [e1, show (x2 + 1).toNat = x2.toNat + 1 by omega]
      simp only [allC, he]
   refine W_if (Zd hlt) (W_let (W_ite (fun c1 => ?_) fun c1 => ?_))
   . refine W_if (Zd h1) (W_if (Zd hlt) (W_let (W_ite (fun c2 => ?_) fun c2 => ?_)))
     . refine W_if (Zd h1) (W_if (Zd hlt) (W_if (show spec_l6Do.pre x3 K x1[x2.toNat] = true from B_iff.2 ⟨hk c1, c2⟩) (W_let (W_if (hl _) (W_some (nx (doCmd x3 K x1[x2.toNat]).1 (doCmd x3 K x1[x2.toNat]).2 ?_))))))
       unfold stepC; rw [c1, c2]; rfl
     . refine W_if (hl _) (W_some (nx K zAns ?_))
       unfold stepC
       rw [not_true c2, Bool.and_false]; rfl
   . refine W_if (hl _) (W_some (nx K zAns ?_))
     unfold stepC
     rw [not_true c1, Bool.false_and]; rfl
 . refine W_else (by rw [Za]; exact hlt) (W_some ?_)
   show (K, x11) = allC x3 K x11 (x1.drop x2.toNat)
   rw [Zt (by omega)]; rfl
noncomputable def fn4 : S4 -> O4 := runF (fun (x : S4) => raw4 x.1 x.2.1 x.2.2.1 x.2.2.2.1 x.2.2.2.2.1 x.2.2.2.2.2.1 x.2.2.2.2.2.2.1 x.2.2.2.2.2.2.2.1 x.2.2.2.2.2.2.2.2.1 x.2.2.2.2.2.2.2.2.2.1 x.2.2.2.2.2.2.2.2.2.2.1 x.2.2.2.2.2.2.2.2.2.2.2.1 x.2.2.2.2.2.2.2.2.2.2.2.2.1 x.2.2.2.2.2.2.2.2.2.2.2.2.2.1 x.2.2.2.2.2.2.2.2.2.2.2.2.2.2.1 x.2.2.2.2.2.2.2.2.2.2.2.2.2.2.2.1 x.2.2.2.2.2.2.2.2.2.2.2.2.2.2.2.2.1 x.2.2.2.2.2.2.2.2.2.2.2.2.2.2.2.2.2.1) mu4
theorem ok4 (x1 : List Cmd) (x2 : Int) (x3 : Setup) (x4 : Int) (x5 : Unit) (x6 : List Row) (x7 : List Maker) (x8 : List Group) (x9 : List Int) (x10 x11 : List Answer) (x12 : Int) (x13 : Unit) (x14 : List Row) (x15 : List Maker) (x16 : List Group) (x17 : List Int) (x18 : List Answer) (hp : pre4 (x1, (x2, (x3, (x4, (x5, (x6, (x7, (x8, (x9, (x10, (x11, (x12, (x13, (x14, (x15, (x16, (x17, (x18, ())))))))))))))))))) = true) :
 Rounds pre4 mu4 fn4 (x1, (x2, (x3, (x4, (x5, (x6, (x7, (x8, (x9, (x10, (x11, (x12, (x13, (x14, (x15, (x16, (x17, (x18, ())))))))))))))))))) (raw4 x1 x2 x3 x4 x5 x6 x7 x8 x9 x10 x11 x12 x13 x14 x15 x16 x17 x18) := runF_ok wp4 hp
def pre (_ : Setup) (l : List Cmd) : Bool := small l
abbrev wf (x0 : Setup) (x1 : (List Cmd)) : Prop := wfA [(.val zk32 .f), (.val (.sl 0 zk4) .f)] (x0, (x1, ()))
noncomputable def raw (x0 : Setup) (x1 : (List Cmd)) : Option (Unit × (zt1 × ((List Answer) × Unit))) :=
 if (spec_KeepNew.pre x0) = true then
 letB (KeepNew x0) fun v1 =>
 if (spec_KeepAll.pre4 (x1, ((0 : Int), (x0, ((0 : Int), ((), (([] : List Row), (([] : List Maker), (([] : List Group), (([] : List Int), (([] : List Answer), (([] : List Answer), (v1.2.2.2.1, (v1.2.2.2.2.2.2, (v1.1, (v1.2.1, (v1.2.2.1, v1.2.2.2.2))))))))))))))))) = true then
 letB (spec_KeepAll.fn4 (x1, ((0 : Int), (x0, ((0 : Int), ((), (([] : List Row), (([] : List Maker), (([] : List Group), (([] : List Int), (([] : List Answer), (([] : List Answer), (v1.2.2.2.1, (v1.2.2.2.2.2.2, (v1.1, (v1.2.1, (v1.2.2.1, v1.2.2.2.2))))))))))))))))) fun v2 =>
 some ((), ((v2.2.2.2.2.2.2.2.2.2.2.1, (v2.2.2.2.2.2.2.2.2.2.2.2.1, (v2.2.2.2.2.2.2.2.2.2.2.2.2.1, (v2.2.2.2.2.2.2.2.2.1, (v2.2.2.2.2.2.2.2.2.2.2.2.2.2.1, (v2.2.2.2.2.2.2.2.2.2.2.2.2.2.2.1, v2.2.2.2.2.2.2.2.2.2.1)))))), (v2.2.2.2.2.2.2.2.1, ())))
 else
 none
 else
 none
theorem eq (x0 : Setup) (x1 : List Cmd) (_ : wf x0 x1) (hp : pre x0 x1 = true) : raw x0 x1 = some ((), ((KeepAll x0 x1).1, ((KeepAll x0 x1).2, ()))) := by
 have hs : small x1 = true := hp
 refine W_eq2 ?_
 unfold raw
 have hq : pre4 (x1, ((0 : Int), (x0, ((0 : Int), ((), (([] : List Row), (([] : List Maker), (([] : List Group), (([] : List Int), (([] : List Answer), (([] : List Answer), ((KeepNew x0).2.2.2.1, ((KeepNew x0).2.2.2.2.2.2, ((KeepNew x0).1, ((KeepNew x0).2.1, ((KeepNew x0).2.2.1, (KeepNew x0).2.2.2.2)))))))))))))))) = true := by
  show (small x1 && (decide ((0 : Int) <= 0) && (decide ((0 : Int) <= (x1.length : Int)) && (decide (((([] : List Answer).length : Nat) : Int) = 0) && B (SetupOk x0 = true -> KeepP x0 (KeepNew x0)))))) = true
  simp only [Zb, Za, B_iff]
  exact ⟨hs, by omega, by omega, rfl, keepNew_P⟩
 refine W_if (show spec_KeepNew.pre x0 = true from rfl) (W_let (W_if hq (W_fact (runF_q wp4 hq : Q4 _ (fn4 _)) ?_)))
 rintro ⟨_, _, _, _, _, _, _, o11, o12, o13, o14, o15, o16, o17, o18, ⟨⟩⟩ ho
 exact W_some ho
end spec_KeepAll
abbrev spec_KeepAll := KeepAll
def KeepQ (s : Setup) (k : Keep) : Prop :=
 (SetupOk s = true /\ (k.1.length : Int) = s.1 /\ k.2.2.1.length = 2 /\ k.2.2.2.2.1.length = 4 /\ k.2.2.2.2.2.1.length = 4 /\ 0 <= k.2.2.2.1 /\ k.2.2.2.1 <= 100000) /\ (∀ r ∈ k.1, RowOk r = true) /\ (∀ g ∈ k.2.2.1, GroupOk g s.1 = true) /\ (∀ d ∈ k.2.2.2.2.1, 0 <= d /\ d <= 100000) /\ (∀ a ∈ k.2.2.2.2.2.1, AnswerOk a = true) /\ (∀ m ∈ k.2.1, makerP m s.2.1 /\ m.1 < s.1) /\ k.2.1.Pairwise ltM
theorem keepP_Q {s : Setup} {k : Keep} (h : KeepP s k) : KeepQ s k := ⟨h.1, h.2.1, h.2.2.1, h.2.2.2.1, h.2.2.2.2.1, fun m hm => ⟨(h.2.2.2.2.2.1 m hm).1, (h.2.2.2.2.2.1 m hm).2.1⟩, h.2.2.2.2.2.2⟩
theorem mks_lenQ {w : Int} {ms : List Maker} (h : ∀ m ∈ ms, makerP m w) (hp : ms.Pairwise ltM) : ms.length <= 16 := by
 have := asc_lenF (f := fun m : Maker => 4 * m.1 + m.2.1) (n := 16) ms 0 (fun m hm => by
  obtain ⟨⟨h1, h2, h3, h4, _⟩, _⟩ := h m hm
  omega) (List.Pairwise.imp_of_mem (fun {a b} ha hb hab => by
   obtain ⟨⟨h1, h2, h3, h4, _⟩, _⟩ := h a ha
   obtain ⟨⟨g1, g2, g3, g4, _⟩, _⟩ := h b hb
   unfold ltM at hab
   omega) hp)
 omega
theorem keepQ_S {s : Setup} {k : Keep} (h : KeepQ s k) : keepS k = true /\ k.2.1.length <= 16 := by
 obtain ⟨⟨h0, h1, h2, h3, h4, h5, h6⟩, k1, k2, k3, k4, k5, k6⟩ := h
 have hs := setup_facts h0
 have hm := mks_lenQ (fun m hm => (k5 m hm).1) k6
 simp only [keepS, Zb, Zu, small_iff]
 refine ⟨⟨by omega, fun r hr => small_iff.1 (row_S (k1 r hr)).2, by omega, fun m hm => ?_, by omega, fun g hg => (groupOk_S (k2 g hg) hs.2.1).1, by omega, by omega⟩, hm⟩
 obtain ⟨⟨⟨_, _, _, _, _, _, _, _, h2, _⟩, _⟩, _⟩ := k5 m hm
 omega
def itemB (x : Item) : List Int := PutNum x.1 ++ (PutText x.2.1 ++ (PutText x.2.2.1 ++ nums [x.2.2.2.1, x.2.2.2.2.1]))
def rowB (r : Row) : List Int := nums [r.1, r.2.1, (r.2.2.1.length : Int)] ++ r.2.2.1.flatMap itemB
def markB (x : Mark) : List Int := nums [x.1, x.2.1]
def makerB (m : Maker) : List Int := nums [m.1, m.2.1, m.2.2.1, wrap .i64 (m.2.2.2.1 + 1), (m.2.2.2.2.1.length : Int)] ++ m.2.2.2.2.1.flatMap markB
def memB2 (p : Int × Int) : List Int := nums [p.1, p.2]
def groupB (g : Group) : List Int := nums [g.1, (g.2.1.length : Int)] ++ ((g.2.1.zip g.2.2.1).flatMap memB2 ++ nums g.2.2.2.1)
def lastB (p : Int × Answer) : List Int := nums [p.1, p.2.1, wrap .i64 (p.2.2.1 + 1)] ++ (PutText p.2.2.2.1 ++ PutText p.2.2.2.2.1)
def keepB (k : Keep) : List Int := PutNum k.1.length ++ (k.1.flatMap rowB ++ (PutNum k.2.1.length ++ (k.2.1.flatMap makerB ++ (PutNum k.2.2.1.length ++ (k.2.2.1.flatMap groupB ++ (PutNum k.2.2.2.1 ++ (k.2.2.2.2.1.zip k.2.2.2.2.2.1).flatMap lastB))))))
theorem fm_len {α : Type} {f : α -> List Int} {c : Nat} : (xs : List α) -> (∀ x ∈ xs, (f x).length <= c) -> (xs.flatMap f).length <= c * xs.length
 | [], _ => by simp
 | a :: r, h => by
  have h1 := h a List.mem_cons_self
  have h2 := fm_len r fun x hx => h x (Zo _ hx)
  simp only [List.flatMap_cons, Zf, Zg, Nat.mul_add]; omega
theorem wordsOk_len {t : List UInt8} (h : wordsOk t = true) : t.length <= 30 := by
 simp only [wordsOk, Zb, Za] at h
 exact h.2
theorem itemB_len {x : Item} (h : itOk x = true) : (itemB x).length <= 85 := by
 simp only [itOk, Zb] at h
 have h1 := wordsOk_len h.1
 have h2 := wordsOk_len h.2.1
 have a := PutNum_len x.1
 have b := PutText_len x.2.1
 have c := PutText_len x.2.2.1
 have d := nums_len [x.2.2.2.1, x.2.2.2.2.1]
 simp only [Zg, Zh] at d
 simp only [itemB, Zf]; omega
theorem rowB_len {r : Row} (h : RowOk r = true) : (rowB r).length <= 6815 := by
 obtain ⟨⟨_, _, _, h4⟩, h5, _⟩ := rowOk_iff.1 h
 have a := nums_len [r.1, r.2.1, (r.2.2.1.length : Int)]
 have b := fm_len (f := itemB) (c := 85) r.2.2.1 fun x hx => itemB_len (h5 x hx).2.2
 simp only [Zg, Zh] at a
 simp only [rowB, Zf]; omega
theorem makerB_len {m : Maker} {w : Int} (h : makerP m w) (hw : w <= 5) : (makerB m).length <= 75 := by
 obtain ⟨⟨_, _, _, _, _, _, _, _, h2, _⟩, _⟩ := h
 have a := nums_len [m.1, m.2.1, m.2.2.1, wrap .i64 (m.2.2.2.1 + 1), (m.2.2.2.2.1.length : Int)]
 have b := fm_len (f := markB) (c := 10) m.2.2.2.2.1 fun x hx => nums_len [x.1, x.2.1]
 simp only [Zg, Zh] at a
 simp only [makerB, Zf]; omega
theorem groupB_len {g : Group} {rows : Int} (h : GroupOk g rows = true) (hr : rows <= 4) : (groupB g).length <= 70 := by
 have hs := groupOk_S h hr
 have ho := (groupOk_iff.1 h).1
 have a := nums_len [g.1, (g.2.1.length : Int)]
 have b := fm_len (f := memB2) (c := 10) (g.2.1.zip g.2.2.1) fun x hx => nums_len [x.1, x.2]
 have c := nums_len g.2.2.2.1
 rw [List.length_zip] at b
 simp only [Zg, Zh] at a
 simp only [groupB, Zf]; omega
theorem ansOk_words {a : Answer} (h : AnswerOk a = true) : a.2.2.1.length <= 30 /\ a.2.2.2.1.length <= 30 := by
 simp only [AnswerOk, Zb] at h
 exact ⟨wordsOk_len h.2.2.1, wordsOk_len h.2.2.2⟩
theorem lastB_len {p : Int × Answer} (h : AnswerOk p.2 = true) : (lastB p).length <= 85 := by
 have h1 := ansOk_words h
 have a := nums_len [p.1, p.2.1, wrap .i64 (p.2.2.1 + 1)]
 have b := PutText_len p.2.2.2.1
 have c := PutText_len p.2.2.2.2.1
 simp only [Zg, Zh] at a
 simp only [lastB, Zf]; omega
theorem zip_snd {α β : Type} {xs : List α} {ys : List β} {p : α × β} (h : p ∈ xs.zip ys) : p.1 ∈ xs /\ p.2 ∈ ys := by
 obtain ⟨a, b⟩ := p
 exact ⟨(List.of_mem_zip h).1, (List.of_mem_zip h).2⟩
theorem keepB_len {s : Setup} {k : Keep} (h : KeepQ s k) : (keepB k).length <= 30000 := by
 have hm := (keepQ_S h).2
 obtain ⟨⟨h0, h1, h2, h3, h4, h5, h6⟩, k1, k2, k3, k4, k5, k6⟩ := h
 have hs := setup_facts h0
 have a1 := PutNum_len k.1.length
 have a2 := PutNum_len k.2.1.length
 have a3 := PutNum_len k.2.2.1.length
 have a4 := PutNum_len k.2.2.2.1
 have b1 := fm_len (f := rowB) (c := 6815) k.1 fun r hr => rowB_len (k1 r hr)
 have b2 := fm_len (f := makerB) (c := 75) k.2.1 fun m hm => makerB_len (k5 m hm).1 (by omega)
 have b3 := fm_len (f := groupB) (c := 70) k.2.2.1 fun g hg => groupB_len (k2 g hg) hs.2.1
 have b4 := fm_len (f := lastB) (c := 85) (k.2.2.2.2.1.zip k.2.2.2.2.2.1) fun p hp => lastB_len (k4 _ (zip_snd hp).2)
 rw [List.length_zip] at b4
 simp only [keepB, Zf]; omega
theorem fl_step {α : Type} {f : α -> List Int} {xs : List α} {i : Int} (out : List Int) (h0 : 0 <= i) (h : i < (xs.length : Int)) (d : α) : (out ++ f (xs.getD i.toNat d)) ++ (xs.drop (i + 1).toNat).flatMap f = out ++ (xs.drop i.toNat).flatMap f := by
 have hn : i.toNat < xs.length := by omega
 rw [Zn hn, getD_get hn, List.flatMap_cons, show (i + 1).toNat = i.toNat + 1 by omega, Zk]
theorem fl_end {α : Type} {f : α -> List Int} {xs : List α} {i : Int} (out : List Int) (h : ¬ i < (xs.length : Int)) : out = out ++ (xs.drop i.toNat).flatMap f := by
 rw [Zt (by omega)]; simp
theorem nums_pre {l : List Int} (h : l.length <= 100) : numsPre l = true := by
 show small l = true
 rw [small_iff]; omega
theorem txt_pre {t : List UInt8} (h : t.length <= 30) : txtPre t = true := by
 simp only [txtPre, Za]; omega
theorem lim_ok {a b : List Int} (h1 : a.length <= 1000000) (h2 : b.length <= 1000000) : decide (a.length + b.length <= lim) = true := by
 simp only [Za, lim]; omega
theorem nums2_len {a b : Int} : (nums [a, b]).length <= 10 := nums_len [a, b]
theorem nums3_len {a b c : Int} : (nums [a, b, c]).length <= 15 := nums_len [a, b, c]
theorem nums5_len {a b c d e : Int} : (nums [a, b, c, d, e]).length <= 25 := nums_len [a, b, c, d, e]
namespace spec_l7Bytes
abbrev S8 : Type := (Int × (Int × (zt1 × ((List Int) × (Row × Unit)))))
abbrev O8 : Type := zt37
abbrev S3 : Type := zt37
abbrev O3 : Type := (zt1 × zt12)
abbrev S22 : Type := (Int × (Int × (zt1 × ((List Int) × (Maker × Unit)))))
abbrev O22 : Type := zt37
abbrev S17 : Type := zt37
abbrev O17 : Type := (zt1 × zt12)
abbrev S32 : Type := (Int × (Int × (zt1 × ((List Int) × (Group × Unit)))))
abbrev O32 : Type := (Int × (zt1 × ((List Int) × (Group × Unit))))
abbrev S27 : Type := zt37
abbrev O27 : Type := (zt1 × zt12)
abbrev S38 : Type := zt37
abbrev O38 : Type := zt12
def pre8 : S8 -> Bool := fun (x1, x2, x3, x4, x5, _) => RowOk x5 && (decide (0 <= x1) && (decide (x1 < (x3.1.length : Int)) && (decide (0 <= x2) && (decide (x2 <= (x5.2.2.1.length : Int)) && decide (x4.length + 85 * (x5.2.2.1.length - x2.toNat) <= 500000)))))
def fn8 : S8 -> O8 := fun (x1, x2, x3, x4, x5, _) => (x1, x3, x4 ++ (x5.2.2.1.drop x2.toNat).flatMap itemB, ())
def mu8 : S8 -> Nat := fun (_, x2, _, _, x5, _) => x5.2.2.1.length - x2.toNat
def pre22 : S22 -> Bool := fun (x1, x2, x3, x4, x5, _) => decide (x5.2.2.2.2.1.length <= 100) && (decide (0 <= x1) && (decide (x1 < (x3.2.1.length : Int)) && (decide (0 <= x2) && (decide (x2 <= (x5.2.2.2.2.1.length : Int)) && decide (x4.length + 10 * (x5.2.2.2.2.1.length - x2.toNat) <= 500000)))))
def fn22 : S22 -> O22 := fun (x1, x2, x3, x4, x5, _) => (x1, x3, x4 ++ (x5.2.2.2.2.1.drop x2.toNat).flatMap markB, ())
def mu22 : S22 -> Nat := fun (_, x2, _, _, x5, _) => x5.2.2.2.2.1.length - x2.toNat
def pre32 : S32 -> Bool := fun (x1, x2, x3, x4, x5, _) => decide (x5.2.1.length <= 100) && (decide (x5.2.2.1.length = x5.2.1.length) && (decide (0 <= x1) && (decide (x1 < (x3.2.2.1.length : Int)) && (decide (0 <= x2) && (decide (x2 <= (x5.2.1.length : Int)) && decide (x4.length + 10 * (x5.2.1.length - x2.toNat) <= 500000))))))
def fn32 : S32 -> O32 := fun (x1, x2, x3, x4, x5, _) => (x1, x3, x4 ++ ((x5.2.1.zip x5.2.2.1).drop x2.toNat).flatMap memB2, x5, ())
def mu32 : S32 -> Nat := fun (_, x2, _, _, x5, _) => x5.2.1.length - x2.toNat
def pre3 : S3 -> Bool := fun (x1, x2, x3, _) => x2.1.all RowOk && (decide (x2.1.length <= 4) && (decide (0 <= x1) && (decide (x1 <= (x2.1.length : Int)) && decide (x3.length + 6900 * (x2.1.length - x1.toNat) <= 100000))))
def fn3 : S3 -> O3 := fun (x1, x2, x3, _) => (x2, x3 ++ (x2.1.drop x1.toNat).flatMap rowB, ())
def mu3 : S3 -> Nat := fun (x1, x2, _) => x2.1.length - x1.toNat
def mkS (m : Maker) : Bool := decide (m.2.2.2.2.1.length <= 5)
def pre17 : S17 -> Bool := fun (x1, x2, x3, _) => x2.2.1.all mkS && (decide (x2.2.1.length <= 16) && (decide (0 <= x1) && (decide (x1 <= (x2.2.1.length : Int)) && decide (x3.length + 100 * (x2.2.1.length - x1.toNat) <= 200000))))
def fn17 : S17 -> O17 := fun (x1, x2, x3, _) => (x2, x3 ++ (x2.2.1.drop x1.toNat).flatMap makerB, ())
def mu17 : S17 -> Nat := fun (x1, x2, _) => x2.2.1.length - x1.toNat
def grS (g : Group) : Bool := decide (g.2.1.length <= 4) && (decide (g.2.2.1.length = g.2.1.length) && decide (g.2.2.2.1.length <= 4))
def pre27 : S27 -> Bool := fun (x1, x2, x3, _) => x2.2.2.1.all grS && (decide (x2.2.2.1.length <= 2) && (decide (0 <= x1) && (decide (x1 <= (x2.2.2.1.length : Int)) && decide (x3.length + 100 * (x2.2.2.1.length - x1.toNat) <= 300000))))
def fn27 : S27 -> O27 := fun (x1, x2, x3, _) => (x2, x3 ++ (x2.2.2.1.drop x1.toNat).flatMap groupB, ())
def mu27 : S27 -> Nat := fun (x1, x2, _) => x2.2.2.1.length - x1.toNat
def pre38 : S38 -> Bool := fun (x1, x2, x3, _) => x2.2.2.2.2.2.1.all AnswerOk && (decide (x2.2.2.2.2.1.length <= 4) && (decide (x2.2.2.2.2.2.1.length = x2.2.2.2.2.1.length) && (decide (0 <= x1) && (decide (x1 <= (x2.2.2.2.2.1.length : Int)) && decide (x3.length + 100 * (x2.2.2.2.2.1.length - x1.toNat) <= 400000)))))
def fn38 : S38 -> O38 := fun (x1, x2, x3, _) => (x3 ++ ((x2.2.2.2.2.1.zip x2.2.2.2.2.2.1).drop x1.toNat).flatMap lastB, ())
def mu38 : S38 -> Nat := fun (x1, x2, _) => x2.2.2.2.2.1.length - x1.toNat
noncomputable def raw8 (x1 : Int) (x2 : Int) (x3 : zt1) (x4 : (List Int)) (x5 : Row) : Option ((Int × (Int × (zt1 × ((List Int) × (Row × Unit))))) ⊕ zt37) :=
 if (decide (x2 < ((length x5.2.2.1 : Nat) : Int))) = true then
 if (decide ((0 : Int) <= x2)) = true then
 if (decide (x2 < ((length x5.2.2.1 : Nat) : Int))) = true then
 letB (PutNum (List.getD x5.2.2.1 (Int.toNat x2) zd2).1) fun v1 =>
 if (decide (length x4 + length v1 <= lim)) = true then
 if (spec_PutText.pre (List.getD x5.2.2.1 (Int.toNat x2) zd2).2.1) = true then
 letB (PutText (List.getD x5.2.2.1 (Int.toNat x2) zd2).2.1) fun v2 =>
 if (decide (length (List.append x4 v1) + length v2 <= lim)) = true then
 if (spec_PutText.pre (List.getD x5.2.2.1 (Int.toNat x2) zd2).2.2.1) = true then
 letB (PutText (List.getD x5.2.2.1 (Int.toNat x2) zd2).2.2.1) fun v3 =>
 if (decide (length (List.append (List.append x4 v1) v2) + length v3 <= lim)) = true then
 if (spec_l7Nums.pre ((List.getD x5.2.2.1 (Int.toNat x2) zd2).2.2.2.1 :: ((List.getD x5.2.2.1 (Int.toNat x2) zd2).2.2.2.2.1 :: ([] : List Int)))) = true then
 letB (nums ((List.getD x5.2.2.1 (Int.toNat x2) zd2).2.2.2.1 :: ((List.getD x5.2.2.1 (Int.toNat x2) zd2).2.2.2.2.1 :: ([] : List Int)))) fun v4 =>
 if (decide (length (List.append (List.append (List.append x4 v1) v2) v3) + length v4 <= lim)) = true then
 some (.inl (x1, ((wrap .i64 (x2 + (1 : Int))), (x3, ((List.append (List.append (List.append (List.append x4 v1) v2) v3) v4), (x5, ()))))))
 else
 none
 else
 none
 else
 none
 else
 none
 else
 none
 else
 none
 else
 none
 else
 none
 else
 none
 else
 some (.inr (x1, (x3, (x4, ()))))
noncomputable def raw3 (x1 : Int) (x2 : zt1) (x3 : (List Int)) : Option (zt37 ⊕ (zt1 × zt12)) :=
 if (decide (x1 < ((length x2.1 : Nat) : Int))) = true then
 if (decide ((0 : Int) <= x1)) = true then
 if (decide (x1 < ((length x2.1 : Nat) : Int))) = true then
 if (spec_l7Nums.pre ((List.getD x2.1 (Int.toNat x1) zd9).1 :: ((List.getD x2.1 (Int.toNat x1) zd9).2.1 :: (((length (List.getD x2.1 (Int.toNat x1) zd9).2.2.1 : Nat) : Int) :: ([] : List Int))))) = true then
 letB (nums ((List.getD x2.1 (Int.toNat x1) zd9).1 :: ((List.getD x2.1 (Int.toNat x1) zd9).2.1 :: (((length (List.getD x2.1 (Int.toNat x1) zd9).2.2.1 : Nat) : Int) :: ([] : List Int))))) fun v1 =>
 if (decide (length x3 + length v1 <= lim)) = true then
 if (spec_l7Bytes.pre8 (x1, ((0 : Int), (x2, ((List.append x3 v1), ((List.getD x2.1 (Int.toNat x1) zd9), ())))))) = true then
 letB (spec_l7Bytes.fn8 (x1, ((0 : Int), (x2, ((List.append x3 v1), ((List.getD x2.1 (Int.toNat x1) zd9), ())))))) fun v2 =>
 some (.inl ((wrap .i64 (v2.1 + (1 : Int))), v2.2))
 else
 none
 else
 none
 else
 none
 else
 none
 else
 none
 else
 some (.inr (x2, (x3, ())))
noncomputable def raw22 (x1 : Int) (x2 : Int) (x3 : zt1) (x4 : (List Int)) (x5 : Maker) : Option ((Int × (Int × (zt1 × ((List Int) × (Maker × Unit))))) ⊕ zt37) :=
 if (decide (x2 < ((length x5.2.2.2.2.1 : Nat) : Int))) = true then
 if (decide ((0 : Int) <= x2)) = true then
 if (decide (x2 < ((length x5.2.2.2.2.1 : Nat) : Int))) = true then
 if (decide ((0 : Int) <= x2)) = true then
 if (decide (x2 < ((length x5.2.2.2.2.1 : Nat) : Int))) = true then
 if (spec_l7Nums.pre ((List.getD x5.2.2.2.2.1 (Int.toNat x2) zd28).1 :: ((List.getD x5.2.2.2.2.1 (Int.toNat x2) zd28).2.1 :: ([] : List Int)))) = true then
 letB (nums ((List.getD x5.2.2.2.2.1 (Int.toNat x2) zd28).1 :: ((List.getD x5.2.2.2.2.1 (Int.toNat x2) zd28).2.1 :: ([] : List Int)))) fun v1 =>
 if (decide (length x4 + length v1 <= lim)) = true then
 some (.inl (x1, ((wrap .i64 (x2 + (1 : Int))), (x3, ((List.append x4 v1), (x5, ()))))))
 else
 none
 else
 none
 else
 none
 else
 none
 else
 none
 else
 none
 else
 some (.inr (x1, (x3, (x4, ()))))
noncomputable def raw17 (x1 : Int) (x2 : zt1) (x3 : (List Int)) : Option (zt37 ⊕ (zt1 × zt12)) :=
 if (decide (x1 < ((length x2.2.1 : Nat) : Int))) = true then
 if (decide ((0 : Int) <= x1)) = true then
 if (decide (x1 < ((length x2.2.1 : Nat) : Int))) = true then
 if (spec_l7Nums.pre ((List.getD x2.2.1 (Int.toNat x1) zd5).1 :: ((List.getD x2.2.1 (Int.toNat x1) zd5).2.1 :: ((List.getD x2.2.1 (Int.toNat x1) zd5).2.2.1 :: ((wrap .i64 ((List.getD x2.2.1 (Int.toNat x1) zd5).2.2.2.1 + (1 : Int))) :: (((length (List.getD x2.2.1 (Int.toNat x1) zd5).2.2.2.2.1 : Nat) : Int) :: ([] : List Int))))))) = true then
 letB (nums ((List.getD x2.2.1 (Int.toNat x1) zd5).1 :: ((List.getD x2.2.1 (Int.toNat x1) zd5).2.1 :: ((List.getD x2.2.1 (Int.toNat x1) zd5).2.2.1 :: ((wrap .i64 ((List.getD x2.2.1 (Int.toNat x1) zd5).2.2.2.1 + (1 : Int))) :: (((length (List.getD x2.2.1 (Int.toNat x1) zd5).2.2.2.2.1 : Nat) : Int) :: ([] : List Int))))))) fun v1 =>
 if (decide (length x3 + length v1 <= lim)) = true then
 if (spec_l7Bytes.pre22 (x1, ((0 : Int), (x2, ((List.append x3 v1), ((List.getD x2.2.1 (Int.toNat x1) zd5), ())))))) = true then
 letB (spec_l7Bytes.fn22 (x1, ((0 : Int), (x2, ((List.append x3 v1), ((List.getD x2.2.1 (Int.toNat x1) zd5), ())))))) fun v2 =>
 some (.inl ((wrap .i64 (v2.1 + (1 : Int))), v2.2))
 else
 none
 else
 none
 else
 none
 else
 none
 else
 none
 else
 some (.inr (x2, (x3, ())))
noncomputable def raw32 (x1 : Int) (x2 : Int) (x3 : zt1) (x4 : (List Int)) (x5 : Group) : Option ((Int × (Int × (zt1 × ((List Int) × (Group × Unit))))) ⊕ (Int × (zt1 × ((List Int) × (Group × Unit))))) :=
 if (decide (x2 < ((length x5.2.1 : Nat) : Int))) = true then
 if (decide ((0 : Int) <= x2)) = true then
 if (decide (x2 < ((length x5.2.1 : Nat) : Int))) = true then
 if (decide ((0 : Int) <= x2)) = true then
 if (decide (x2 < ((length x5.2.2.1 : Nat) : Int))) = true then
 if (spec_l7Nums.pre ((List.getD x5.2.1 (Int.toNat x2) (0 : Int)) :: ((List.getD x5.2.2.1 (Int.toNat x2) (0 : Int)) :: ([] : List Int)))) = true then
 letB (nums ((List.getD x5.2.1 (Int.toNat x2) (0 : Int)) :: ((List.getD x5.2.2.1 (Int.toNat x2) (0 : Int)) :: ([] : List Int)))) fun v1 =>
 if (decide (length x4 + length v1 <= lim)) = true then
 some (.inl (x1, ((wrap .i64 (x2 + (1 : Int))), (x3, ((List.append x4 v1), (x5, ()))))))
 else
 none
 else
 none
 else
 none
 else
 none
 else
 none
 else
 none
 else
 some (.inr (x1, (x3, (x4, (x5, ())))))
noncomputable def raw27 (x1 : Int) (x2 : zt1) (x3 : (List Int)) : Option (zt37 ⊕ (zt1 × zt12)) :=
 if (decide (x1 < ((length x2.2.2.1 : Nat) : Int))) = true then
 if (decide ((0 : Int) <= x1)) = true then
 if (decide (x1 < ((length x2.2.2.1 : Nat) : Int))) = true then
 if (spec_l7Nums.pre ((List.getD x2.2.2.1 (Int.toNat x1) zd8).1 :: (((length (List.getD x2.2.2.1 (Int.toNat x1) zd8).2.1 : Nat) : Int) :: ([] : List Int)))) = true then
 letB (nums ((List.getD x2.2.2.1 (Int.toNat x1) zd8).1 :: (((length (List.getD x2.2.2.1 (Int.toNat x1) zd8).2.1 : Nat) : Int) :: ([] : List Int)))) fun v1 =>
 if (decide (length x3 + length v1 <= lim)) = true then
 if (spec_l7Bytes.pre32 (x1, ((0 : Int), (x2, ((List.append x3 v1), ((List.getD x2.2.2.1 (Int.toNat x1) zd8), ())))))) = true then
 letB (spec_l7Bytes.fn32 (x1, ((0 : Int), (x2, ((List.append x3 v1), ((List.getD x2.2.2.1 (Int.toNat x1) zd8), ())))))) fun v2 =>
 if (spec_l7Nums.pre v2.2.2.2.1.2.2.2.1) = true then
 letB (nums v2.2.2.2.1.2.2.2.1) fun v3 =>
 if (decide (length v2.2.2.1 + length v3 <= lim)) = true then
 some (.inl ((wrap .i64 (v2.1 + (1 : Int))), (v2.2.1, ((List.append v2.2.2.1 v3), ()))))
 else
 none
 else
 none
 else
 none
 else
 none
 else
 none
 else
 none
 else
 none
 else
 some (.inr (x2, (x3, ())))
noncomputable def raw38 (x1 : Int) (x2 : zt1) (x3 : (List Int)) : Option (zt37 ⊕ zt12) :=
 if (decide (x1 < ((length x2.2.2.2.2.1 : Nat) : Int))) = true then
 if (decide ((0 : Int) <= x1)) = true then
 if (decide (x1 < ((length x2.2.2.2.2.2.1 : Nat) : Int))) = true then
 if (decide ((0 : Int) <= x1)) = true then
 if (decide (x1 < ((length x2.2.2.2.2.1 : Nat) : Int))) = true then
 if (spec_l7Nums.pre ((List.getD x2.2.2.2.2.1 (Int.toNat x1) (0 : Int)) :: ((List.getD x2.2.2.2.2.2.1 (Int.toNat x1) zd7).1 :: ((wrap .i64 ((List.getD x2.2.2.2.2.2.1 (Int.toNat x1) zd7).2.1 + (1 : Int))) :: ([] : List Int))))) = true then
 letB (nums ((List.getD x2.2.2.2.2.1 (Int.toNat x1) (0 : Int)) :: ((List.getD x2.2.2.2.2.2.1 (Int.toNat x1) zd7).1 :: ((wrap .i64 ((List.getD x2.2.2.2.2.2.1 (Int.toNat x1) zd7).2.1 + (1 : Int))) :: ([] : List Int))))) fun v1 =>
 if (decide (length x3 + length v1 <= lim)) = true then
 if (spec_PutText.pre (List.getD x2.2.2.2.2.2.1 (Int.toNat x1) zd7).2.2.1) = true then
 letB (PutText (List.getD x2.2.2.2.2.2.1 (Int.toNat x1) zd7).2.2.1) fun v2 =>
 if (decide (length (List.append x3 v1) + length v2 <= lim)) = true then
 if (spec_PutText.pre (List.getD x2.2.2.2.2.2.1 (Int.toNat x1) zd7).2.2.2.1) = true then
 letB (PutText (List.getD x2.2.2.2.2.2.1 (Int.toNat x1) zd7).2.2.2.1) fun v3 =>
 if (decide (length (List.append (List.append x3 v1) v2) + length v3 <= lim)) = true then
 some (.inl ((wrap .i64 (x1 + (1 : Int))), (x2, ((List.append (List.append (List.append x3 v1) v2) v3), ()))))
 else
 none
 else
 none
 else
 none
 else
 none
 else
 none
 else
 none
 else
 none
 else
 none
 else
 none
 else
 none
 else
 some (.inr (x3, ()))
abbrev wf (x0 : zt1) : Prop := wfA [(.val zk3 .f)] (x0, ())
noncomputable def raw (x0 : zt1) : Option (Unit × zt12) :=
 letB (PutNum ((length x0.1 : Nat) : Int)) fun v1 =>
 if (spec_l7Bytes.pre3 ((0 : Int), (x0, (v1, ())))) = true then
 letB (spec_l7Bytes.fn3 ((0 : Int), (x0, (v1, ())))) fun v2 =>
 letB (PutNum ((length v2.1.2.1 : Nat) : Int)) fun v3 =>
 if (decide (length v2.2.1 + length v3 <= lim)) = true then
 if (spec_l7Bytes.pre17 ((0 : Int), (v2.1, ((List.append v2.2.1 v3), ())))) = true then
 letB (spec_l7Bytes.fn17 ((0 : Int), (v2.1, ((List.append v2.2.1 v3), ())))) fun v4 =>
 letB (PutNum ((length v4.1.2.2.1 : Nat) : Int)) fun v5 =>
 if (decide (length v4.2.1 + length v5 <= lim)) = true then
 if (spec_l7Bytes.pre27 ((0 : Int), (v4.1, ((List.append v4.2.1 v5), ())))) = true then
 letB (spec_l7Bytes.fn27 ((0 : Int), (v4.1, ((List.append v4.2.1 v5), ())))) fun v6 =>
 letB (PutNum v6.1.2.2.2.1) fun v7 =>
 if (decide (length v6.2.1 + length v7 <= lim)) = true then
 if (spec_l7Bytes.pre38 ((0 : Int), (v6.1, ((List.append v6.2.1 v7), ())))) = true then
 letB (spec_l7Bytes.fn38 ((0 : Int), (v6.1, ((List.append v6.2.1 v7), ())))) fun v8 =>
 some ((), v8)
 else
 none
 else
 none
 else
 none
 else
 none
 else
 none
 else
 none
 else
 none
theorem ok8 (x1 x2 : Int) (x3 : Keep) (x4 : List Int) (x5 : Row) (hp : pre8 (x1, (x2, (x3, (x4, (x5, ()))))) = true) : Rounds pre8 mu8 fn8 (x1, (x2, (x3, (x4, (x5, ()))))) (raw8 x1 x2 x3 x4 x5) := by
 simp only [pre8, Zb, Za] at hp
 obtain ⟨hr, k1, k2, h1, h2, h3⟩ := hp
 have hr' := rowOk_iff.1 hr
 unfold raw8
 by_cases hlt : x2 < (x5.2.2.1.length : Int)
 . have hit := (hr'.2.1 _ (getD_mem (show x2.toNat < x5.2.2.1.length by omega) zd2)).2.2
   have hf := fl_step (f := itemB) x4 h1 hlt zd2
   have hl := itemB_len hit
   rw [w64 (n := x2 + 1) (by omega) (by omega)]
   generalize x5.2.2.1.getD x2.toNat zd2 = e at *
   simp only [itOk, Zb] at hit
   have t1 := wordsOk_len hit.1
   have t2 := wordsOk_len hit.2.1
   have a := PutNum_len e.1
   have b := PutText_len e.2.1
   have c := PutText_len e.2.2.1
   have d := nums2_len (a := e.2.2.2.1) (b := e.2.2.2.2.1)
   refine R_if (Zd hlt) (R_if (Zd h1) (R_if (Zd hlt) (R_let (R_if (lim_ok (by omega) (by omega)) (R_if (txt_pre t1) (R_let (R_if (lim_ok (by simp only [List.append_eq, Zf]; omega) (by omega)) (R_if (txt_pre t2) (R_let (R_if (lim_ok (by simp only [List.append_eq, Zf]; omega) (by omega)) (R_if (nums_pre (by simp)) (R_let (R_if (lim_ok (by simp only [List.append_eq, Zf]; omega) (by omega)) ⟨?_, by simp only [mu8]; omega, ?_⟩)))))))))))))
   . simp only [pre8, Zb, Za, List.append_eq, Zf]
     refine ⟨hr, k1, k2, by omega, by omega, ?_⟩
     simp only [itemB, Zf] at hl
     omega
   . simp only [fn8]
     rw [<- hf]
     simp only [itemB, List.append_eq, Zk]
 . exact R_else (by rw [Za]; exact hlt) (congrArg (fun z => ((x1, (x3, (z, ()))) : O8)) (fl_end x4 hlt))
theorem ok22 (x1 x2 : Int) (x3 : Keep) (x4 : List Int) (x5 : Maker) (hp : pre22 (x1, (x2, (x3, (x4, (x5, ()))))) = true) : Rounds pre22 mu22 fn22 (x1, (x2, (x3, (x4, (x5, ()))))) (raw22 x1 x2 x3 x4 x5) := by
 simp only [pre22, Zb, Za] at hp
 obtain ⟨hr, k1, k2, h1, h2, h3⟩ := hp
 unfold raw22
 by_cases hlt : x2 < (x5.2.2.2.2.1.length : Int)
 . have hf := fl_step (f := markB) x4 h1 hlt zd28
   rw [w64 (n := x2 + 1) (by omega) (by omega)]
   generalize x5.2.2.2.2.1.getD x2.toNat zd28 = e at *
   have d := nums2_len (a := e.1) (b := e.2.1)
   refine R_if (Zd hlt) (R_if (Zd h1) (R_if (Zd hlt) (R_if (Zd h1) (R_if (Zd hlt) (R_if (nums_pre (by simp)) (R_let (R_if (lim_ok (by omega) (by omega)) ⟨?_, by simp only [mu22]; omega, ?_⟩)))))))
   . simp only [pre22, Zb, Za, List.append_eq, Zf]
     exact ⟨hr, k1, k2, by omega, by omega, by omega⟩
   . simp only [fn22]
     rw [<- hf]; rfl
 . exact R_else (by rw [Za]; exact hlt) (congrArg (fun z => ((x1, (x3, (z, ()))) : O22)) (fl_end x4 hlt))
theorem ok32 (x1 x2 : Int) (x3 : Keep) (x4 : List Int) (x5 : Group) (hp : pre32 (x1, (x2, (x3, (x4, (x5, ()))))) = true) : Rounds pre32 mu32 fn32 (x1, (x2, (x3, (x4, (x5, ()))))) (raw32 x1 x2 x3 x4 x5) := by
 simp only [pre32, Zb, Za] at hp
 obtain ⟨hr, hb, k1, k2, h1, h2, h3⟩ := hp
 have hz : (x5.2.1.zip x5.2.2.1).length = x5.2.1.length := by rw [List.length_zip]; omega
 unfold raw32
 by_cases hlt : x2 < (x5.2.1.length : Int)
 . have hf := fl_step (f := memB2) (xs := x5.2.1.zip x5.2.2.1) x4 h1 (by omega) ((0 : Int), (0 : Int))
   have hn : x2.toNat < (x5.2.1.zip x5.2.2.1).length := by omega
   have he : (x5.2.1.zip x5.2.2.1).getD x2.toNat ((0 : Int), (0 : Int)) = (x5.2.1.getD x2.toNat 0, x5.2.2.1.getD x2.toNat 0) := by
    rw [getD_get hn, getD_get (show x2.toNat < x5.2.1.length by omega), getD_get (show x2.toNat < x5.2.2.1.length by omega), List.getElem_zip]
   rw [he] at hf
   rw [w64 (n := x2 + 1) (by omega) (by omega)]
   have d := nums2_len (a := x5.2.1.getD x2.toNat 0) (b := x5.2.2.1.getD x2.toNat 0)
   refine R_if (Zd hlt) (R_if (Zd h1) (R_if (Zd hlt) (R_if (Zd h1) (R_if (Zd (by omega)) (R_if (nums_pre (by simp)) (R_let (R_if (lim_ok (by omega) (by omega)) ⟨?_, by simp only [mu32]; omega, ?_⟩)))))))
   . simp only [pre32, Zb, Za, List.append_eq, Zf]
     exact ⟨hr, hb, k1, k2, by omega, by omega, by omega⟩
   . simp only [fn32]
     rw [<- hf]; rfl
 . exact R_else (by rw [Za]; exact hlt) (congrArg (fun z => ((x1, (x3, (z, (x5, ())))) : O32)) (fl_end x4 (by omega)))
theorem ok3 (x1 : Int) (x2 : Keep) (x3 : List Int) (hp : pre3 (x1, (x2, (x3, ()))) = true) : Rounds pre3 mu3 fn3 (x1, (x2, (x3, ()))) (raw3 x1 x2 x3) := by
 simp only [pre3, Zb, Za, Zu] at hp
 obtain ⟨hr, hl, h1, h2, h3⟩ := hp
 unfold raw3
 by_cases hlt : x1 < (x2.1.length : Int)
 . have hrow := hr _ (getD_mem (show x1.toNat < x2.1.length by omega) zd9)
   have hf := fl_step (f := rowB) x3 h1 hlt zd9
   have hb := rowB_len hrow
   have hr4 := (rowOk_iff.1 hrow).1.2.2.2
   generalize x2.1.getD x1.toNat zd9 = e at *
   have d := nums3_len (a := e.1) (b := e.2.1) (c := (e.2.2.1.length : Int))
   have hq : pre8 (x1, ((0 : Int), (x2, (List.append x3 (nums [e.1, e.2.1, (e.2.2.1.length : Int)]), (e, ()))))) = true := by
    simp only [pre8, Zb, Za, List.append_eq, Zf]
    exact ⟨hrow, h1, hlt, by omega, by omega, by omega⟩
   refine R_if (Zd hlt) (R_if (Zd h1) (R_if (Zd hlt) (R_if (nums_pre (by simp)) (R_let (R_if (lim_ok (by omega) (by omega)) (R_if hq (R_let ?_)))))))
   simp only [fn8, Int.toNat_zero, List.drop_zero]
   rw [w64 (n := x1 + 1) (by omega) (by omega)]
   have he : List.append x3 (nums [e.1, e.2.1, (e.2.2.1.length : Int)]) ++ e.2.2.1.flatMap itemB = x3 ++ rowB e := by
    simp only [rowB, List.append_eq, Zk]
   rw [he]
   refine ⟨?_, by simp only [mu3]; omega, ?_⟩
   . simp only [pre3, Zb, Za, Zu, Zf]
     exact ⟨hr, hl, by omega, by omega, by omega⟩
   . simp only [fn3]
     rw [hf]
 . exact R_else (by rw [Za]; exact hlt) (congrArg (fun z => ((x2, (z, ())) : O3)) (fl_end x3 hlt))
theorem ok17 (x1 : Int) (x2 : Keep) (x3 : List Int) (hp : pre17 (x1, (x2, (x3, ()))) = true) : Rounds pre17 mu17 fn17 (x1, (x2, (x3, ()))) (raw17 x1 x2 x3) := by
 simp only [pre17, Zb, Za, Zu] at hp
 obtain ⟨hr, hl, h1, h2, h3⟩ := hp
 unfold raw17
 by_cases hlt : x1 < (x2.2.1.length : Int)
 . have hrow := hr _ (getD_mem (show x1.toNat < x2.2.1.length by omega) zd5)
   have hf := fl_step (f := makerB) x3 h1 hlt zd5
   generalize x2.2.1.getD x1.toNat zd5 = e at *
   simp only [mkS, Za] at hrow
   have d := nums5_len (a := e.1) (b := e.2.1) (c := e.2.2.1) (d := wrap .i64 (e.2.2.2.1 + 1)) (e := (e.2.2.2.2.1.length : Int))
   have hm := fm_len (f := markB) (c := 10) e.2.2.2.2.1 fun x hx => nums_len [x.1, x.2.1]
   have hq : pre22 (x1, ((0 : Int), (x2, (List.append x3 (nums [e.1, e.2.1, e.2.2.1, wrap .i64 (e.2.2.2.1 + 1), (e.2.2.2.2.1.length : Int)]), (e, ()))))) = true := by
    simp only [pre22, Zb, Za, List.append_eq, Zf]
    exact ⟨by omega, h1, hlt, by omega, by omega, by omega⟩
   refine R_if (Zd hlt) (R_if (Zd h1) (R_if (Zd hlt) (R_if (nums_pre (by simp)) (R_let (R_if (lim_ok (by omega) (by omega)) (R_if hq (R_let ?_)))))))
   simp only [fn22, Int.toNat_zero, List.drop_zero]
   rw [w64 (n := x1 + 1) (by omega) (by omega)]
   have he : List.append x3 (nums [e.1, e.2.1, e.2.2.1, wrap .i64 (e.2.2.2.1 + 1), (e.2.2.2.2.1.length : Int)]) ++ e.2.2.2.2.1.flatMap markB = x3 ++ makerB e := by
    simp only [makerB, List.append_eq, Zk]
   rw [he]
   have hb : (makerB e).length <= 75 := by simp only [makerB, Zf]; omega
   refine ⟨?_, by simp only [mu17]; omega, ?_⟩
   . simp only [pre17, Zb, Za, Zu, Zf]
     exact ⟨hr, hl, by omega, by omega, by omega⟩
   . simp only [fn17]
     rw [hf]
 . exact R_else (by rw [Za]; exact hlt) (congrArg (fun z => ((x2, (z, ())) : O17)) (fl_end x3 hlt))
theorem ok27 (x1 : Int) (x2 : Keep) (x3 : List Int) (hp : pre27 (x1, (x2, (x3, ()))) = true) : Rounds pre27 mu27 fn27 (x1, (x2, (x3, ()))) (raw27 x1 x2 x3) := by
 simp only [pre27, Zb, Za, Zu] at hp
 obtain ⟨hr, hl, h1, h2, h3⟩ := hp
 unfold raw27
 by_cases hlt : x1 < (x2.2.2.1.length : Int)
 . have hrow := hr _ (getD_mem (show x1.toNat < x2.2.2.1.length by omega) zd8)
   have hf := fl_step (f := groupB) x3 h1 hlt zd8
   generalize x2.2.2.1.getD x1.toNat zd8 = e at *
   simp only [grS, Zb, Za] at hrow
   have d := nums2_len (a := e.1) (b := (e.2.1.length : Int))
   have hm := fm_len (f := memB2) (c := 10) (e.2.1.zip e.2.2.1) fun x hx => nums_len [x.1, x.2]
   have ho := nums_len e.2.2.2.1
   rw [List.length_zip] at hm
   have hq : pre32 (x1, ((0 : Int), (x2, (List.append x3 (nums [e.1, (e.2.1.length : Int)]), (e, ()))))) = true := by
    simp only [pre32, Zb, Za, List.append_eq, Zf]
    exact ⟨by omega, hrow.2.1, h1, hlt, by omega, by omega, by omega⟩
   refine R_if (Zd hlt) (R_if (Zd h1) (R_if (Zd hlt) (R_if (nums_pre (by simp)) (R_let (R_if (lim_ok (by omega) (by omega)) (R_if hq (R_let ?_)))))))
   simp only [fn32, Int.toNat_zero, List.drop_zero]
   rw [w64 (n := x1 + 1) (by omega) (by omega)]
   have he : (List.append x3 (nums [e.1, (e.2.1.length : Int)]) ++ (e.2.1.zip e.2.2.1).flatMap memB2) ++ nums e.2.2.2.1 = x3 ++ groupB e := by
    simp only [groupB, List.append_eq, Zk]
   have hb : (groupB e).length <= 70 := by simp only [groupB, Zf]; omega
   refine R_if (nums_pre (show e.2.2.2.1.length <= 100 by omega)) (R_let (R_if (lim_ok (by simp only [List.append_eq, Zf]; omega) (by omega)) ?_))
   rw [List.append_eq, he]
   refine ⟨?_, by simp only [mu27]; omega, ?_⟩
   . simp only [pre27, Zb, Za, Zu, Zf]
     exact ⟨hr, hl, by omega, by omega, by omega⟩
   . simp only [fn27]
     rw [hf]
 . exact R_else (by rw [Za]; exact hlt) (congrArg (fun z => ((x2, (z, ())) : O27)) (fl_end x3 hlt))
theorem ok38 (x1 : Int) (x2 : Keep) (x3 : List Int) (hp : pre38 (x1, (x2, (x3, ()))) = true) : Rounds pre38 mu38 fn38 (x1, (x2, (x3, ()))) (raw38 x1 x2 x3) := by
 simp only [pre38, Zb, Za, Zu] at hp
 obtain ⟨hr, hl, hq, h1, h2, h3⟩ := hp
 have hz : (x2.2.2.2.2.1.zip x2.2.2.2.2.2.1).length = x2.2.2.2.2.1.length := by rw [List.length_zip]; omega
 unfold raw38
 by_cases hlt : x1 < (x2.2.2.2.2.1.length : Int)
 . have ha := hr _ (getD_mem (show x1.toNat < x2.2.2.2.2.2.1.length by omega) zd7)
   have hf := fl_step (f := lastB) (xs := x2.2.2.2.2.1.zip x2.2.2.2.2.2.1) x3 h1 (by omega) ((0 : Int), zd7)
   have hn : x1.toNat < (x2.2.2.2.2.1.zip x2.2.2.2.2.2.1).length := by omega
   have he : (x2.2.2.2.2.1.zip x2.2.2.2.2.2.1).getD x1.toNat ((0 : Int), zd7) = (x2.2.2.2.2.1.getD x1.toNat 0, x2.2.2.2.2.2.1.getD x1.toNat zd7) := by
    rw [getD_get hn, getD_get (show x1.toNat < x2.2.2.2.2.1.length by omega), getD_get (show x1.toNat < x2.2.2.2.2.2.1.length by omega), List.getElem_zip]
   rw [he] at hf
   have hlb := lastB_len (p := (x2.2.2.2.2.1.getD x1.toNat 0, x2.2.2.2.2.2.1.getD x1.toNat zd7)) ha
   have t := ansOk_words ha
   rw [w64 (n := x1 + 1) (by omega) (by omega)]
   generalize x2.2.2.2.2.2.1.getD x1.toNat zd7 = a at *
   generalize x2.2.2.2.2.1.getD x1.toNat 0 = dn at *
   have d := nums3_len (a := dn) (b := a.1) (c := wrap .i64 (a.2.1 + 1))
   have b := PutText_len a.2.2.1
   have c := PutText_len a.2.2.2.1
   refine R_if (Zd hlt) (R_if (Zd h1) (R_if (Zd (by omega)) (R_if (Zd h1) (R_if (Zd hlt) (R_if (nums_pre (by simp)) (R_let (R_if (lim_ok (by omega) (by omega)) (R_if (txt_pre t.1) (R_let (R_if (lim_ok (by simp only [List.append_eq, Zf]; omega) (by omega)) (R_if (txt_pre t.2) (R_let (R_if (lim_ok (by simp only [List.append_eq, Zf]; omega) (by omega)) ⟨?_, by simp only [mu38]; omega, ?_⟩)))))))))))))
   . simp only [pre38, Zb, Za, Zu, List.append_eq, Zf]
     refine ⟨hr, hl, hq, by omega, by omega, ?_⟩
     simp only [lastB, Zf] at hlb
     omega
   . simp only [fn38]
     rw [<- hf]
     simp only [lastB, List.append_eq, Zk]
 . exact R_else (by rw [Za]; exact hlt) (congrArg (fun z => ((z, ()) : O38)) (fl_end x3 (by omega)))
noncomputable def pre (k : Keep) : Bool := B (∃ s, KeepQ s k)
theorem eq (x0 : Keep) (_ : wf x0) (hp : pre x0 = true) : raw x0 = some ((), (keepB x0, ())) := by
 obtain ⟨s, hk⟩ := B_iff.1 hp
 have hm := (keepQ_S hk).2
 obtain ⟨⟨h0, h1, h2, h3, h4, h5, h6⟩, k1, k2, k3, k4, k5, k6⟩ := hk
 have hs := setup_facts h0
 have a1 := PutNum_len x0.1.length
 have a2 := PutNum_len x0.2.1.length
 have a3 := PutNum_len x0.2.2.1.length
 have a4 := PutNum_len x0.2.2.2.1
 have b1 := fm_len (f := rowB) (c := 6815) x0.1 fun r hr => rowB_len (k1 r hr)
 have b2 := fm_len (f := makerB) (c := 75) x0.2.1 fun m hm => makerB_len (k5 m hm).1 (by omega)
 have b3 := fm_len (f := groupB) (c := 70) x0.2.2.1 fun g hg => groupB_len (k2 g hg) hs.2.1
 unfold raw
 refine E_let (E_if (show pre3 _ = true by simp only [pre3, Zb, Za, Zu]; exact ⟨k1, by omega, by omega, by omega, by omega⟩) (E_let ?_))
 simp only [fn3, Int.toNat_zero, List.drop_zero]
 refine E_let (E_if (lim_ok (by simp only [Zf]; omega) (by omega)) (E_if (show pre17 _ = true by simp only [pre17, Zb, Za, Zu, List.append_eq, Zf]; exact ⟨fun m hm => Zd (by obtain ⟨⟨⟨_, _, _, _, _, _, _, _, g2, _⟩, _⟩, _⟩ := k5 m hm; omega), by omega, by omega, by omega, by omega⟩) (E_let ?_)))
 simp only [fn17, Int.toNat_zero, List.drop_zero]
 refine E_let (E_if (lim_ok (by simp only [List.append_eq, Zf]; omega) (by omega)) (E_if (show pre27 _ = true by
  simp only [pre27, Zb, Za, Zu, List.append_eq, Zf]
  refine ⟨fun g hg => ?_, by omega, by omega, by omega, by omega⟩
  have g1 := groupOk_S (k2 g hg) hs.2.1
  have g2 := (groupOk_iff.1 (k2 g hg)).1
  simp only [grS, Zb, Za]; omega) (E_let ?_)))
 simp only [fn27, Int.toNat_zero, List.drop_zero]
 refine E_let (E_if (lim_ok (by simp only [List.append_eq, Zf]; omega) (by omega)) (E_if (show pre38 _ = true by simp only [pre38, Zb, Za, Zu, List.append_eq, Zf]; exact ⟨k4, by omega, by omega, by omega, by omega, by omega⟩) (E_let ?_)))
 simp only [fn38, Int.toNat_zero, List.drop_zero, keepB, List.append_eq, Zk]
end spec_l7Bytes
abbrev spec_l7Bytes := keepB
def laws_big (x : List Int) : Bool := decide ((1048576 : Int) < (x.length : Int))
namespace laws_big
abbrev wf (x0 : (List Int)) : Prop := wfA [(.val zk20 .f)] (x0, ())
noncomputable def raw (x0 : (List Int)) : Option zt30 :=
 some ((), ((decide ((1048576 : Int) < ((length x0 : Nat) : Int))), ()))
theorem eq (x0 : List Int) (_ : wf x0) : raw x0 = some ((), (laws_big x0, ())) := rfl
end laws_big
theorem not_big {x : List Int} (h : ¬ laws_big x = true) : small x = true := by
 simp only [laws_big, Za] at h
 rw [small_iff]; omega
def skP (v : Setup × Keep) : Prop := SetupOk v.1 = true /\ KeepP v.1 v.2
namespace spec_l6DrawRight
def pre (c : Cur) : Bool := curB c
abbrev wf (x0 : zt11) : Prop := wfA [(.ref zk34 .f)] (x0, ())
noncomputable def raw (x0 : zt11) : Option (zt38 × (Setup × (zt1 × Unit))) :=
 if (spec_l1DrawRight.pre x0) = true then
 letB (spec_l1DrawRight x0) fun v1 =>
 if (spec_l6DrawCmds.pre v1.1 (14 : Int)) = true then
 letB (spec_l6DrawCmds v1.1 (14 : Int)) fun v2 =>
 if (spec_KeepAll.pre v1.2 v2.2) = true then
 letB (KeepAll v1.2 v2.2) fun v3 =>
 some ((v2.1, ()), (v1.2, (v3.1, ())))
 else
 none
 else
 none
 else
 none
theorem wp (x0 : Cur) (hp : pre x0 = true) : Wp (raw x0) (fun r => dP skP (r.1.1, (r.2.1, r.2.2.1))) := by
 unfold raw
 have hp : curB x0 = true := hp
 have cp : ∀ {c : Cur}, curB c = true -> spec_l6DrawCmds.pre c 14 = true := fun h => by simp only [spec_l6DrawCmds.pre, h, Bool.true_and]; decide
 refine W_if (show spec_l1DrawRight.pre x0 = true from hp) (W_fact (spec_l1DrawRight_sp hp) fun a ha => W_if (cp ha.1) (W_fact (spec_l6DrawCmds_sp (cp ha.1)) fun b hb => W_if (show small b.2 = true by have := hb.2.1; rw [small_iff]; omega) (W_let (W_some ⟨hb.1, ha.2, (keepAll_ok (l := b.2)).1 ha.2⟩))))
noncomputable def val (x0 : Cur) : Cur × (Setup × Keep) := ((got (raw x0)).1.1, ((got (raw x0)).2.1, (got (raw x0)).2.2.1))
theorem eq (x0 : Cur) (_ : wf x0) (hp : pre x0 = true) : raw x0 = some (((val x0).1, ()), ((val x0).2.1, ((val x0).2.2, ()))) := (got_eq (wp x0 hp)).1
end spec_l6DrawRight
noncomputable def spec_l6DrawRight (x0 : Cur) : Cur × (Setup × Keep) := spec_l6DrawRight.val x0
theorem spec_l6DrawRight_sp {x0 : Cur} (hp : curB x0 = true) : dP skP (spec_l6DrawRight x0) := (got_eq (spec_l6DrawRight.wp x0 hp)).2
def entP (lo hi : Int) (e : Entry) : Prop := CmdOk e.2.1 = true /\ lo <= e.1 /\ e.1 <= hi
def entsP (lo hi n : Int) (l : List Entry) : Prop := (l.length : Int) <= n /\ ∀ e ∈ l, entP lo hi e
namespace spec_l8DrawEntries
abbrev S4 : Type := (Int × (Int × (Int × (zt11 × ((List Entry) × Unit)))))
abbrev O4 : Type := (zt11 × ((List Entry) × Unit))
def pre4 : S4 -> Bool := fun (x1, x2, x3, x4, x5, _) => decide (x2 <= 100) && (decide (0 <= x3) && (curB x4 && (decide ((x5.length : Int) = x3) && (decide (0 <= x1) && decide (x1 + max (x2 - x3) 0 <= 10000)))))
def mu4 : S4 -> Nat := fun (_, x2, x3, _, _, _) => (x2 - x3).toNat
def Q4 (s : S4) (o : O4) : Prop := curB o.1 = true /\ (o.2.1.length : Int) <= max s.2.1 s.2.2.1 /\ ∀ lo hi, (∀ e ∈ s.2.2.2.2.1, entP lo hi e) -> lo <= s.1 -> s.1 + (s.2.1 - s.2.2.1) <= hi -> ∀ e ∈ o.2.1, entP lo hi e
noncomputable def raw4 (x1 : Int) (x2 : Int) (x3 : Int) (x4 : zt11) (x5 : (List Entry)) : Option ((Int × (Int × (Int × (zt11 × ((List Entry) × Unit))))) ⊕ (zt11 × ((List Entry) × Unit))) :=
 if (decide (x3 < x2)) = true then
 if (spec_l1Below.pre x4 (2 : Int)) = true then
 letB (spec_l1Below x4 (2 : Int)) fun v1 =>
 if (spec_l2DrawRight.pre v1.1) = true then
 letB (spec_l2DrawRight v1.1) fun v2 =>
 if (decide (length x5 + length (((wrap .i64 (x1 + v1.2)), (v2.2, ())) :: ([] : List Entry)) <= lim)) = true then
 some (.inl ((wrap .i64 (x1 + v1.2)), (x2, ((wrap .i64 (x3 + (1 : Int))), (v2.1, ((List.append x5 (((wrap .i64 (x1 + v1.2)), (v2.2, ())) :: ([] : List Entry))), ()))))))
 else
 none
 else
 none
 else
 none
 else
 some (.inr (x4, (x5, ())))
theorem wp4 : ∀ s, pre4 s = true -> Wp ((fun (x : S4) => raw4 x.1 x.2.1 x.2.2.1 x.2.2.2.1 x.2.2.2.2.1) s) (Step pre4 mu4 Q4 s) := by
 rintro ⟨x1, x2, x3, x4, x5, ⟨⟩⟩ hp
 simp only [pre4, Zb, Za] at hp
 obtain ⟨h1, h2, h3, h4, h5, h6⟩ := hp
 show Wp (raw4 x1 x2 x3 x4 x5) _
 unfold raw4
 refine W_ite (fun h => ?_) fun h => W_some ⟨h3, by show (x5.length : Int) <= max x2 x3; omega, fun lo hi he _ _ => he⟩
 rw [Za] at h
 refine W_if (show spec_l1Below.pre x4 _ = true from h3) (W_fact (spec_l1Below_sp h3) fun a ha => W_if (show spec_l2DrawRight.pre a.1 = true from ha.1) (W_fact (spec_l2DrawRight_sp ha.1) fun b hb => W_if (by simp only [Za, Zg, Zh, lim]; omega) (W_some ?_)))
 have a1 := ha.2.1; have a2 := ha.2.2 (by decide)
 rw [w64 (n := x3 + 1) (by omega) (by omega), w64 (n := x1 + a.2) (by omega) (by omega)]
 refine ⟨?_, ?_, ?_⟩
 . simp only [pre4, Zb, Za, List.append_eq, Zf, Zg, Zh]
   exact ⟨h1, by omega, hb.1, by omega, by omega, by omega⟩
 . simp only [mu4]; omega
 . rintro ⟨o1, o2, ⟨⟩⟩ ⟨q1, q2, q3⟩
   have q2 : (o2.length : Int) <= max x2 (x3 + 1) := q2
   refine ⟨q1, by show (o2.length : Int) <= max x2 x3; omega, fun lo hi he hlo hhi => q3 lo hi ?_ (by show lo <= x1 + a.2; have : lo <= x1 := hlo; omega) (by show x1 + a.2 + (x2 - (x3 + 1)) <= hi; have : x1 + (x2 - x3) <= hi := hhi; omega)⟩
   intro e he'
   have hlo : lo <= x1 := hlo
   have hhi : x1 + (x2 - x3) <= hi := hhi
   rcases Zp.1 he' with he' | he'
   . exact he e he'
   . rw [Zq] at he'
     subst he'
     exact ⟨hb.2.1, by show lo <= x1 + a.2; omega, by show x1 + a.2 <= hi; omega⟩
noncomputable def fn4 : S4 -> O4 := runF (fun (x : S4) => raw4 x.1 x.2.1 x.2.2.1 x.2.2.2.1 x.2.2.2.2.1) mu4
theorem ok4 (x1 x2 x3 : Int) (x4 : Cur) (x5 : List Entry) (hp : pre4 (x1, (x2, (x3, (x4, (x5, ()))))) = true) : Rounds pre4 mu4 fn4 (x1, (x2, (x3, (x4, (x5, ()))))) (raw4 x1 x2 x3 x4 x5) := runF_ok wp4 hp
def pre (c : Cur) (t n : Int) : Bool := curB c && (decide (0 <= t) && (decide (t <= 1000) && (decide (0 <= n) && decide (n <= 50))))
abbrev wf (x0 : zt11) (x1 : Int) (x2 : Int) : Prop := wfA [(.ref zk34 .f), (.val (.int .i64) .f), (.val (.int .i64) .f)] (x0, (x1, (x2, ())))
noncomputable def raw (x0 : zt11) (x1 : Int) (x2 : Int) : Option (zt38 × ((List Entry) × Unit)) :=
 if (spec_l1Below.pre x0 (wrap .i64 (x2 + (1 : Int)))) = true then
 letB (spec_l1Below x0 (wrap .i64 (x2 + (1 : Int)))) fun v1 =>
 if (spec_l8DrawEntries.pre4 (x1, (v1.2, ((0 : Int), (v1.1, (([] : List Entry), ())))))) = true then
 letB (spec_l8DrawEntries.fn4 (x1, (v1.2, ((0 : Int), (v1.1, (([] : List Entry), ())))))) fun v2 =>
 some ((v2.1, ()), v2.2)
 else
 none
 else
 none
theorem wp (x0 : Cur) (x1 x2 : Int) (hp : pre x0 x1 x2 = true) : Wp (raw x0 x1 x2) (fun r => dP (entsP x1 (x1 + x2) x2) (r.1.1, r.2.1)) := by
 unfold raw
 simp only [pre, Zb, Za] at hp
 obtain ⟨h1, h2, h3, h4, h5⟩ := hp
 rw [w64 (n := x2 + 1) (by omega) (by omega)]
 refine W_if (show spec_l1Below.pre x0 _ = true from h1) (W_fact (spec_l1Below_sp h1) fun v hv => ?_)
 have v1 := hv.2.1; have v2 := hv.2.2 (by omega)
 have hq : pre4 (x1, (v.2, ((0 : Int), (v.1, (([] : List Entry), ()))))) = true := by
  simp only [pre4, Zb, Za, Zh]
  exact ⟨by omega, by omega, hv.1, rfl, by omega, by omega⟩
 refine W_if hq (W_fact (runF_q wp4 hq : Q4 _ (fn4 _)) fun o ho => W_some ⟨ho.1, ?_, ho.2.2 x1 (x1 + x2) (fun e he => absurd he List.not_mem_nil) (Int.le_refl _) (by show x1 + (v.2 - 0) <= x1 + x2; omega)⟩)
 have : (o.2.1.length : Int) <= max v.2 0 := ho.2.1
 show (o.2.1.length : Int) <= x2
 omega
noncomputable def val (x0 : Cur) (x1 x2 : Int) : Cur × List Entry := ((got (raw x0 x1 x2)).1.1, (got (raw x0 x1 x2)).2.1)
theorem eq (x0 : Cur) (x1 x2 : Int) (_ : wf x0 x1 x2) (hp : pre x0 x1 x2 = true) : raw x0 x1 x2 = some (((val x0 x1 x2).1, ()), ((val x0 x1 x2).2, ())) := (got_eq (wp x0 x1 x2 hp)).1
end spec_l8DrawEntries
noncomputable def spec_l8DrawEntries (x0 : Cur) (x1 x2 : Int) : Cur × List Entry := spec_l8DrawEntries.val x0 x1 x2
theorem spec_l8DrawEntries_sp {x0 : Cur} {x1 x2 : Int} (hp : spec_l8DrawEntries.pre x0 x1 x2 = true) : dP (entsP x1 (x1 + x2) x2) (spec_l8DrawEntries x0 x1 x2) := (got_eq (spec_l8DrawEntries.wp x0 x1 x2 hp)).2
theorem ents_pre {c : Cur} {t n : Int} (h : curB c = true) (h1 : 0 <= t) (h2 : t <= 1000) (h3 : 0 <= n) (h4 : n <= 50) : spec_l8DrawEntries.pre c t n = true := by
 simp only [spec_l8DrawEntries.pre, Zb, Za]; exact ⟨h, h1, h2, h3, h4⟩
def noteP (r : Note) : Prop := r.2.2.2.2.1.length <= 10 /\ r.2.2.2.2.2.1.length <= 30000
namespace spec_l9DrawRight
def pre (c : Cur) : Bool := curB c
abbrev wf (x0 : zt11) : Prop := wfA [(.ref zk34 .f)] (x0, ())
noncomputable def raw (x0 : zt11) : Option (zt38 × (Note × Unit)) :=
 if (spec_l1Below.pre x0 (4 : Int)) = true then
 letB (spec_l1Below x0 (4 : Int)) fun v1 =>
 if (decide (v1.2 = (0 : Int))) = true then
 if (spec_l1Below.pre v1.1 (6 : Int)) = true then
 letB (spec_l1Below v1.1 (6 : Int)) fun v2 =>
 if (spec_l1Below.pre v2.1 (4 : Int)) = true then
 letB (spec_l1Below v2.1 (4 : Int)) fun v3 =>
 some ((v3.1, ()), (((1 : Int), (v2.2, ((wrap .i64 (v3.2 - (1 : Int))), ((0 : Int), (([] : List Entry), (([] : List UInt8), ())))))), ()))
 else
 none
 else
 none
 else
 if (decide (v1.2 = (1 : Int))) = true then
 if (spec_l6DrawRight.pre v1.1) = true then
 letB (spec_l6DrawRight v1.1) fun v4 =>
 if (spec_l1Below.pre v4.1 (3 : Int)) = true then
 letB (spec_l1Below v4.1 (3 : Int)) fun v5 =>
 if (spec_l1Below.pre v5.1 (5 : Int)) = true then
 if (spec_l7Bytes.pre v4.2.2) = true then
 letB (spec_l1Below v5.1 (5 : Int)) fun v6 =>
 letB (keepB v4.2.2) fun v7 =>
 some ((v6.1, ()), (((3 : Int), (v5.2, ((0 : Int), (v6.2, (([] : List Entry), ((strOf v7), ())))))), ()))
 else
 none
 else
 none
 else
 none
 else
 none
 else
 if (spec_l1Below.pre v1.1 (2 : Int)) = true then
 letB (spec_l1Below v1.1 (2 : Int)) fun v8 =>
 if (spec_l1Below.pre v8.1 (3 : Int)) = true then
 letB (spec_l1Below v8.1 (3 : Int)) fun v9 =>
 if (spec_l8DrawEntries.pre v9.1 (1 : Int) (4 : Int)) = true then
 letB (spec_l8DrawEntries v9.1 (1 : Int) (4 : Int)) fun v10 =>
 some ((v10.1, ()), (((2 : Int), (v8.2, ((0 : Int), (v9.2, (v10.2, (([] : List UInt8), ())))))), ()))
 else
 none
 else
 none
 else
 none
 else
 none
theorem wp (x0 : Cur) (hp : pre x0 = true) : Wp (raw x0) (fun r => dP noteP (r.1.1, r.2.1)) := by
 unfold raw
 have hp : curB x0 = true := hp
 have p1 : ∀ {c : Cur} {n : Int}, curB c = true -> spec_l1Below.pre c n = true := fun h => h
 refine W_if (p1 hp) (W_fact (spec_l1Below_sp hp) fun a ha => W_ite (fun _ => ?_) fun _ => W_ite (fun _ => ?_) fun _ => ?_)
 . exact W_if (p1 ha.1) (W_fact (spec_l1Below_sp ha.1) fun b hb => W_if (p1 hb.1) (W_fact (spec_l1Below_sp hb.1) fun c hc => W_some ⟨hc.1, Nat.zero_le _, Nat.zero_le _⟩))
 . refine W_if (show spec_l6DrawRight.pre a.1 = true from ha.1) (W_fact (spec_l6DrawRight_sp ha.1) fun b hb => ?_)
   have hQ := keepP_Q hb.2.2
   have hl := keepB_len hQ
   refine W_if (p1 hb.1) ?_
   have h3 := spec_l1Below_sp (x1 := 3) hb.1
   refine W_if (p1 h3.1) (W_if (show spec_l7Bytes.pre b.2.2 = true from B_iff.2 ⟨_, hQ⟩) (W_let ?_))
   have h5 := spec_l1Below_sp (x1 := 5) h3.1
   exact W_let (W_let (W_some ⟨h5.1, Nat.zero_le _, by show (strOf _).length <= 30000; rw [strOf, List.length_map]; exact hl⟩))
 . refine W_if (p1 ha.1) (W_fact (spec_l1Below_sp ha.1) fun b hb => W_if (p1 hb.1) (W_fact (spec_l1Below_sp hb.1) fun c hc => W_if (ents_pre hc.1 (by decide) (by decide) (by decide) (by decide)) (W_fact (spec_l8DrawEntries_sp (ents_pre hc.1 (by decide) (by decide) (by decide) (by decide))) fun d hd => W_some ⟨hd.1, ?_, Nat.zero_le _⟩)))
   have := hd.2.1
   show d.2.length <= 10
   omega
noncomputable def val (x0 : Cur) : Cur × Note := ((got (raw x0)).1.1, (got (raw x0)).2.1)
theorem eq (x0 : Cur) (_ : wf x0) (hp : pre x0 = true) : raw x0 = some (((val x0).1, ()), ((val x0).2, ())) := (got_eq (wp x0 hp)).1
end spec_l9DrawRight
noncomputable def spec_l9DrawRight (x0 : Cur) : Cur × Note := spec_l9DrawRight.val x0
theorem spec_l9DrawRight_sp {x0 : Cur} (hp : curB x0 = true) : dP noteP (spec_l9DrawRight x0) := (got_eq (spec_l9DrawRight.wp x0 hp)).2
theorem NoteBytes_len (r : Note) : (NoteBytes r).length <= 41000 := by
 unfold NoteBytes
 split
 . rename_i h
   have := body_len (NoteOk_len h)
   have := PutNum_len (spec_l9Body r).length
   simp only [Zf, sum4, Zg, Zh]; omega
 . exact Nat.zero_le _
theorem isBytes_app {a b : List Int} : isBytes (a ++ b) = (isBytes a && isBytes b) := List.all_append
theorem isBytes_cons {a : Int} {b : List Int} : isBytes (a :: b) = (decide (0 <= a) && decide (a <= 255) && isBytes b) := rfl
theorem isBytes_mem {b : List Int} : isBytes b = true ↔ ∀ x ∈ b, 0 <= x /\ x <= 255 := by
 simp only [isBytes, Zu, Zb, Za]
theorem putN_bytes : (n : Nat) -> isBytes (putN n) = true := by
 intro n
 induction n using Nat.strongRecOn with
 | _ n ih =>
  by_cases h : n <= 127
  . rw [putN_lt h, isBytes_mem]
    intro x hx
    rw [Zq] at hx; omega
  . rw [putN_ge h, isBytes_mem]
    intro x hx
    rcases List.mem_cons.1 hx with rfl | hx
    . omega
    . exact isBytes_mem.1 (ih (n / 128) (by omega)) x hx
theorem PutNum_bytes (n : Int) : isBytes (PutNum n) = true := by
 unfold PutNum
 split
 . exact putN_bytes _
 . rfl
theorem bytesOf_bytes (t : List UInt8) : isBytes (bytesOf t) = true := by
 rw [isBytes_mem]
 intro x hx
 obtain ⟨c, _, rfl⟩ := List.mem_map.1 hx
 have := c.toNat_lt
 omega
theorem PutText_bytes (t : List UInt8) : isBytes (PutText t) = true := by
 unfold PutText; rw [isBytes_app, PutNum_bytes, bytesOf_bytes]; rfl
theorem fm_bytes {α : Type} {f : α -> List Int} : (xs : List α) -> (∀ x ∈ xs, isBytes (f x) = true) -> isBytes (xs.flatMap f) = true
 | [], _ => rfl
 | a :: r, h => by
  rw [List.flatMap_cons, isBytes_app, h a List.mem_cons_self, fm_bytes r fun x hx => h x (Zo _ hx)]; rfl
theorem nums_bytes (l : List Int) : isBytes (nums l) = true := fm_bytes l fun x _ => PutNum_bytes x
theorem CmdBytes_bytes (c : Cmd) : isBytes (CmdBytes c) = true := by
 unfold CmdBytes
 split
 . simp only [List.append_eq, isBytes_app, nums_bytes, PutText_bytes, Bool.and_self]
 . rfl
theorem body_bytes (r : Note) : isBytes (spec_l9Body r) = true := by
 have he : isBytes (ents r.2.2.2.2.1) = true := fm_bytes _ fun e _ => by unfold entB; rw [isBytes_app, PutNum_bytes, CmdBytes_bytes]; rfl
 simp only [spec_l9Body, headB, isBytes_app, PutNum_bytes, PutText_bytes, he, Bool.and_self]
theorem wrap8_byte (n : Int) : 0 <= wrap .u8 n /\ wrap .u8 n <= 255 := by
 simp [wrap, IntKind.signed, IntKind.bits]
 omega
theorem sum4_bytes (n : Int) : isBytes (sum4 n) = true := by
 rw [isBytes_mem]
 intro x hx
 simp only [sum4, List.mem_cons, List.not_mem_nil, or_false] at hx
 rcases hx with rfl | rfl | rfl | rfl <;> exact wrap8_byte _
theorem NoteBytes_bytes (r : Note) : isBytes (NoteBytes r) = true := by
 unfold NoteBytes
 split
 . rw [isBytes_app, isBytes_app, PutNum_bytes, body_bytes, sum4_bytes]; rfl
 . rfl
def bytesP (n : Nat) (l : List Int) : Prop := l.length <= n /\ isBytes l = true
namespace spec_l9DrawBytes
abbrev S3 : Type := (Int × (zt11 × zt12))
abbrev O3 : Type := (zt11 × zt12)
def pre3 : S3 -> Bool := fun (x1, x2, x3, _) => curB x2 && (decide (0 <= x1) && (decide (x1 <= 3) && (decide ((x3.length : Int) <= 41000 * x1) && isBytes x3)))
def mu3 : S3 -> Nat := fun (x1, _) => (3 - x1).toNat
def Q3 (_ : S3) (o : O3) : Prop := curB o.1 = true /\ bytesP 123000 o.2.1
noncomputable def raw3 (x1 : Int) (x2 : zt11) (x3 : (List Int)) : Option ((Int × (zt11 × zt12)) ⊕ (zt11 × zt12)) :=
 if (spec_l1Below.pre x2 (4 : Int)) = true then
 letB (spec_l1Below x2 (4 : Int)) fun v1 =>
 if (decide (x1 < v1.2)) = true then
 if (spec_l9DrawRight.pre v1.1) = true then
 letB (spec_l9DrawRight v1.1) fun v2 =>
 letB (NoteBytes v2.2) fun v3 =>
 if (decide (length x3 + length v3 <= lim)) = true then
 some (.inl ((wrap .i64 (x1 + (1 : Int))), (v2.1, ((List.append x3 v3), ()))))
 else
 none
 else
 none
 else
 some (.inr (v1.1, (x3, ())))
 else
 none
theorem wp3 : ∀ s, pre3 s = true -> Wp ((fun (x : S3) => raw3 x.1 x.2.1 x.2.2.1) s) (Step pre3 mu3 Q3 s) := by
 rintro ⟨x1, x2, x3, ⟨⟩⟩ hp
 simp only [pre3, Zb, Za] at hp
 obtain ⟨h1, h2, h3, h4, h5⟩ := hp
 show Wp (raw3 x1 x2 x3) _
 unfold raw3
 refine W_if (show spec_l1Below.pre x2 _ = true from h1) (W_fact (spec_l1Below_sp h1) fun a ha => W_ite (fun h => ?_) fun _ => W_some ⟨ha.1, by show x3.length <= 123000; omega, h5⟩)
 rw [Za] at h
 have a2 := ha.2.2 (by decide)
 rw [w64 (n := x1 + 1) (by omega) (by omega)]
 refine W_if (show spec_l9DrawRight.pre a.1 = true from ha.1) (W_fact (spec_l9DrawRight_sp ha.1) fun b hb => W_let ?_)
 have hl := NoteBytes_len b.2
 refine W_if (by simp only [Za, lim]; omega) (W_some ⟨?_, by simp only [mu3]; omega, fun o ho => ho⟩)
 simp only [pre3, Zb, Za, List.append_eq, Zf]
 exact ⟨hb.1, by omega, by omega, by omega, by rw [isBytes_app, h5, NoteBytes_bytes]; rfl⟩
noncomputable def fn3 : S3 -> O3 := runF (fun (x : S3) => raw3 x.1 x.2.1 x.2.2.1) mu3
theorem ok3 (x1 : Int) (x2 : Cur) (x3 : List Int) (hp : pre3 (x1, (x2, (x3, ()))) = true) : Rounds pre3 mu3 fn3 (x1, (x2, (x3, ()))) (raw3 x1 x2 x3) := runF_ok wp3 hp
def pre (c : Cur) : Bool := curB c
abbrev wf (x0 : zt11) : Prop := wfA [(.ref zk34 .f)] (x0, ())
noncomputable def raw (x0 : zt11) : Option (zt38 × zt12) :=
 if (spec_l9DrawBytes.pre3 ((0 : Int), (x0, (([] : List Int), ())))) = true then
 letB (spec_l9DrawBytes.fn3 ((0 : Int), (x0, (([] : List Int), ())))) fun v1 =>
 some ((v1.1, ()), v1.2)
 else
 none
theorem wp (x0 : Cur) (hp : pre x0 = true) : Wp (raw x0) (fun r => dP (bytesP 123000) (r.1.1, r.2.1)) := by
 unfold raw
 have hp : curB x0 = true := hp
 have hq : pre3 ((0 : Int), (x0, (([] : List Int), ()))) = true := by
  simp only [pre3, Zb, Za, Zh]; exact ⟨hp, by omega, by omega, by omega, rfl⟩
 exact W_if hq (W_fact (runF_q wp3 hq : Q3 _ (fn3 _)) fun o ho => W_some ⟨ho.1, ho.2⟩)
noncomputable def val (x0 : Cur) : Cur × List Int := ((got (raw x0)).1.1, (got (raw x0)).2.1)
theorem eq (x0 : Cur) (_ : wf x0) (hp : pre x0 = true) : raw x0 = some (((val x0).1, ()), ((val x0).2, ())) := (got_eq (wp x0 hp)).1
end spec_l9DrawBytes
noncomputable def spec_l9DrawBytes (x0 : Cur) : Cur × List Int := spec_l9DrawBytes.val x0
theorem spec_l9DrawBytes_sp {x0 : Cur} (hp : curB x0 = true) : dP (bytesP 123000) (spec_l9DrawBytes x0) := (got_eq (spec_l9DrawBytes.wp x0 hp)).2
theorem neq_self {α : Type} [BEq α] [ReflBEq α] (a : α) : ¬ (!(a == a)) = true := by rw [beq_self_eq_true]; decide
theorem nde_self (a : Int) : ¬ (!decide (a = a)) = true := by rw [Zd rfl]; decide
theorem gn_of : (f : Nat) -> (k n : Nat) -> (rest : List Int) -> (acc : Int) -> (putN n).length <= f -> (k = 0 \/ 0 < n) -> acc + (n : Int) * 128 ^ k <= 2147483647 -> 0 <= acc -> k <= 4 ->
 gn (some none) f k (putN n ++ rest) acc = some (some (acc + (n : Int) * 128 ^ k, k + (putN n).length))
 | 0, k, n, rest, acc, hf, _, _, _, _ => by
  by_cases h : n <= 127
  . rw [putN_lt h] at hf; simp at hf
  . rw [putN_ge h] at hf; simp at hf
 | f + 1, k, n, rest, acc, hf, hk, ha, h0, h4 => by
  by_cases h : n <= 127
  . rw [putN_lt h]
    simp only [List.cons_append, List.nil_append, gn, Zg, Zh]
    have e : (n : Int) % 128 = n := by omega
    rw [if_pos (by omega), if_neg (by omega), e, if_neg (by omega)]
  . have hn := putN_ge h
    rw [hn]
    simp only [List.cons_append, gn, Zg]
    rw [hn, Zg] at hf
    have hp := (pow128 h4).2
    have e1 : ((n % 128 + 128 : Nat) : Int) % 128 = ((n % 128 : Nat) : Int) := by omega
    rw [if_neg (by omega), e1]
    have hs : (n : Int) * 128 ^ k = ((n % 128 : Nat) : Int) * 128 ^ k + ((n / 128 : Nat) : Int) * 128 ^ (k + 1) := by
     rw [Int.pow_succ, show ((n / 128 : Nat) : Int) * (128 ^ k * 128) = (((n / 128 : Nat) : Int) * 128) * 128 ^ k by rw [Int.mul_comm (128 ^ k) 128, Int.mul_assoc], <- Int.add_mul]
     congr 1
     omega
    have hq : 0 <= ((n % 128 : Nat) : Int) * 128 ^ k := Int.mul_nonneg (by omega) (by omega)
    have hk4 : k + 1 <= 4 \/ k = 4 := by omega
    rcases hk4 with hk4 | hk4
    . rw [gn_of f (k + 1) (n / 128) rest _ (by omega) (.inr (by omega)) (by omega) (by omega) hk4, hs]
      rw [show acc + ((n % 128 : Nat) : Int) * 128 ^ k + ((n / 128 : Nat) : Int) * 128 ^ (k + 1) = acc + (((n % 128 : Nat) : Int) * 128 ^ k + ((n / 128 : Nat) : Int) * 128 ^ (k + 1)) by omega, show k + 1 + (putN (n / 128)).length = k + ((putN (n / 128)).length + 1) by omega]
    . exfalso
      subst hk4
      have : (128 : Int) * 128 ^ 4 <= (n : Int) * 128 ^ 4 := Int.mul_le_mul_of_nonneg_right (by omega) (by decide)
      have e4 : (128 : Int) * 128 ^ 4 = 34359738368 := by decide
      omega
theorem GetNum_of {b rest : List Int} {i n : Int} (h0 : 0 <= i) (hn : 0 <= n /\ n <= 2147483647) (h : b.drop i.toNat = PutNum n ++ rest) : GetNum b i = (n, (i + ((PutNum n).length : Int), true)) := by
 have hl := PutNum_len n
 unfold GetNum
 rw [if_neg (by omega), h]
 unfold PutNum at hl ⊢
 rw [if_pos hn] at hl ⊢
 have := gn_of 5 0 n.toNat rest 0 hl (.inl rfl) (by simp; omega) (Int.le_refl _) (by omega)
 rw [this]
 simp only [gnRes, Int.zero_add, Nat.zero_add, Int.pow_zero, Int.mul_one]
 rw [Int.toNat_of_nonneg hn.1]
def Sees (s : R) (rest : List Int) : Prop := s.2.2.1 = true /\ 0 <= s.2.1 /\ s.2.1 <= (s.1.length : Int) /\ s.1.drop s.2.1.toNat = rest
theorem sees_go {s : R} {a rest : List Int} (h : Sees s (a ++ rest)) : Sees (s.1, (s.2.1 + (a.length : Int), (true, ()))) rest /\ s.2.1 + (a.length : Int) + (rest.length : Int) = (s.1.length : Int) := by
 obtain ⟨h1, h2, h3, h4⟩ := h
 have hl := congrArg length h4
 rw [Zs, Zf] at hl
 refine ⟨⟨rfl, by show 0 <= s.2.1 + (a.length : Int); omega, by show s.2.1 + (a.length : Int) <= (s.1.length : Int); omega, ?_⟩, by omega⟩
 show s.1.drop (s.2.1 + (a.length : Int)).toNat = rest
 rw [show (s.2.1 + (a.length : Int)).toNat = s.2.1.toNat + a.length by omega, <- List.drop_drop, h4, List.drop_left]
theorem num_wr {s : R} {rest : List Int} {n : Int} (hn : 0 <= n /\ n <= 2147483647) (h : Sees s (PutNum n ++ rest)) : ∃ t, spec_l7Num s = (t, n) /\ Sees t rest /\ t.1 = s.1 := by
 have hg := GetNum_of h.2.1 hn h.2.2.2
 refine ⟨_, ?_, (sees_go h).1, rfl⟩
 unfold spec_l7Num rNum
 rw [hg, if_pos ⟨h.1, rfl⟩]
theorem strOf_bytesOf (t : List UInt8) : strOf (bytesOf t) = t := by
 induction t with
 | nil => rfl
 | cons a r ih =>
  simp only [strOf, bytesOf, List.map_cons, List.map_map] at *
  rw [ih]
  congr 1
  simp
theorem txt_wr {s : R} {rest : List Int} {t : List UInt8} (hn : t.length <= 1000000) (h : Sees s (PutText t ++ rest)) : ∃ u, spec_l7Text s = (u, t) /\ Sees u rest /\ u.1 = s.1 := by
 unfold PutText at h
 have h' := h
 rw [Zk] at h'
 have hg := GetNum_of h.2.1 (n := (t.length : Int)) ⟨by omega, by omega⟩ h'.2.2.2
 have g1 := sees_go h'
 have g2 := sees_go h
 have hbl : (bytesOf t).length = t.length := by simp [bytesOf]
 have hlt := g1.2
 rw [Zf, hbl] at hlt
 have e1 : s.2.1 + (((PutNum (t.length : Int)).length : Nat) : Int) + (t.length : Int) = s.2.1 + (((PutNum (t.length : Int) ++ bytesOf t).length : Nat) : Int) := by
  rw [Zf, hbl]; omega
 have hv : txtV s.1 (GetNum s.1 s.2.1) = (t, (s.2.1 + (((PutNum (t.length : Int) ++ bytesOf t).length : Nat) : Int), true)) := by
  rw [hg]
  unfold txtV
  rw [if_pos rfl, if_neg (by simp only; omega)]
  simp only
  rw [e1]
  congr 1
  have hd := g1.1.2.2.2
  simp only at hd
  unfold dropTake
  rw [hd, <- e1, show (s.2.1 + ((PutNum (t.length : Int)).length : Int) + (t.length : Int)).toNat - (s.2.1 + ((PutNum (t.length : Int)).length : Int)).toNat = (bytesOf t).length by rw [hbl]; have := h.2.1; omega, List.take_left, strOf_bytesOf]
 refine ⟨_, ?_, g2.1, rfl⟩
 unfold spec_l7Text rTxt
 rw [hv, if_pos ⟨h.1, rfl⟩]
theorem cmd_ranges {c : Cmd} (h : CmdOk c = true) : (-1 <= c.1 /\ c.1 <= 3) /\ (0 <= c.2.1 /\ c.2.1 <= 100000) /\ (0 <= c.2.2.1 /\ c.2.2.1 <= 100000) /\ (0 <= c.2.2.2.1 /\ c.2.2.2.1 <= 100000) /\ (0 <= c.2.2.2.2.1 /\ c.2.2.2.2.1 <= 100000) /\ (0 <= c.2.2.2.2.2.1 /\ c.2.2.2.2.2.1 <= 100000) := by
 rcases cmd_none h with h1 | h1
 . unfold CmdOk at h
   rw [if_pos h1] at h
   simp only [Zb, Za] at h
   omega
 . have := cmd_facts h h1
   omega
theorem nums_cons {a : Int} {l : List Int} : nums (a :: l) = PutNum a ++ nums l := by simp [nums]
theorem nums_nil : nums [] = [] := rfl
theorem cmd_wr {s : R} {rest : List Int} {c : Cmd} (hc : CmdOk c = true) (h : Sees s (CmdBytes c ++ rest)) : ∃ u, spec_l7Cmd s = (u, c) /\ Sees u rest /\ u.1 = s.1 := by
 have hr := cmd_ranges hc
 have ht := CmdOk_texts hc
 unfold CmdBytes at h
 rw [if_pos hc, w64 (n := c.1 + 1) (by omega) (by omega)] at h
 simp only [List.append_eq, nums_cons, nums_nil, Zk, List.nil_append, List.append_nil] at h
 obtain ⟨s1, e1, h1, b1⟩ := num_wr (by omega) h
 obtain ⟨s2, e2, h2, b2⟩ := num_wr (by omega) h1
 obtain ⟨s3, e3, h3, b3⟩ := num_wr (by omega) h2
 obtain ⟨s4, e4, h4, b4⟩ := num_wr (by omega) h3
 obtain ⟨s5, e5, h5, b5⟩ := num_wr (by omega) h4
 obtain ⟨s6, e6, h6, b6⟩ := num_wr (by omega) h5
 obtain ⟨s7, e7, h7, b7⟩ := txt_wr (by omega) h6
 obtain ⟨s8, e8, h8, b8⟩ := txt_wr (by omega) h7
 refine ⟨s8, ?_, h8, by rw [b8, b7, b6, b5, b4, b3, b2, b1]⟩
 unfold spec_l7Cmd rCmd
 simp only [letB, e1, e2, e3, e4, e5, e6, e7, e8]
 rw [show c.1 + 1 - 1 = c.1 by omega, w64 (n := c.1) (by omega) (by omega)]
end Go.Aw.Pl
