/-
  Commands and logs: what the functions of the program and of the reference do; the laws.
-/
import Derived.Test.YtdgpjdedpkpfhaaPlE
namespace Go.Aw.Pl
open Go Go.Aw

def impl_within (n lo hi : Int) : Bool := decide (lo ≤ n) && decide (n ≤ hi)
namespace impl_within
abbrev wf (x0 : Int) (x1 : Int) (x2 : Int) : Prop := wfA [(.val (.int .i64) .f), (.val (.int .i64) .f), (.val (.int .i64) .f)] (x0, (x1, (x2, ())))
noncomputable def raw (x0 : Int) (x1 : Int) (x2 : Int) : Option (Unit × (Bool × Unit)) :=
 if (decide (x1 ≤ x0)) = true then
  some ((), ((decide (x0 ≤ x2)), ()))
 else
  some ((), (false, ()))
theorem eq (x0 x1 x2 : Int) (_ : wf x0 x1 x2) : raw x0 x1 x2 = some ((), (impl_within x0 x1 x2, ())) := by
  unfold raw impl_within
  by_cases h : x1 ≤ x0 <;> simp [h]
end impl_within
abbrev spec_l1In := impl_within
namespace spec_l1In
abbrev wf (x0 : Int) (x1 : Int) (x2 : Int) : Prop := wfA [(.val (.int .i64) .f), (.val (.int .i64) .f), (.val (.int .i64) .f)] (x0, (x1, (x2, ())))
noncomputable def raw (x0 : Int) (x1 : Int) (x2 : Int) : Option (Unit × (Bool × Unit)) :=
 if (decide (x1 ≤ x0)) = true then
  some ((), ((decide (x0 ≤ x2)), ()))
 else
  some ((), (false, ()))
theorem eq (x0 x1 x2 : Int) (_ : wf x0 x1 x2) : raw x0 x1 x2 = some ((), (spec_l1In x0 x1 x2, ())) := by
  unfold raw spec_l1In impl_within
  by_cases h : x1 ≤ x0 <;> simp [h]
end spec_l1In

/-! ### texts -/
def chOk (c : UInt8) : Bool := (decide (97 ≤ c.toNat) && decide (c.toNat ≤ 122)) || (decide (48 ≤ c.toNat) && decide (c.toNat ≤ 57)) || decide (c.toNat = 32)
def wordsOk (s : List UInt8) : Bool := s.all chOk && decide (s.length ≤ 30)
abbrev TxS := List UInt8 × (Int × Unit)
def txPre : TxS → Bool := fun s => decide (s.1.length ≤ maxLen) && decide (0 ≤ s.2.1) && decide (s.2.1.toNat ≤ s.1.length)
def txFn : TxS → (Bool × Unit) ⊕ (List UInt8 × Unit) := fun s => if (s.1.drop s.2.1.toNat).all chOk = true then .inr (s.1, ()) else .inl (false, ())
def txMu : TxS → Nat := fun s => s.1.length - s.2.1.toNat

theorem tx_next {x1 : List UInt8} {x2 : Int} (hp : txPre (x1, (x2, ())) = true) (hlt : x2 < (x1.length : Int)) :
    0 ≤ x2 ∧ (chOk (x1.getD x2.toNat 0) = true → Rounds txPre txMu txFn (x1, (x2, ())) (some (.inl (x1, (IntKind.wrap .i64 (x2 + 1), ()))))) ∧
      (chOk (x1.getD x2.toNat 0) = false → Rounds txPre txMu txFn (x1, (x2, ())) (some (.inr (.inl (false, ()))))) := by
  simp only [txPre, Bool.and_eq_true, decide_eq_true_eq] at hp
  obtain ⟨⟨h1, h2⟩, h3⟩ := hp
  have hM := maxLen_eq
  have hn : x2.toNat < x1.length := by omega
  have e1 := List.drop_eq_getElem_cons hn
  rw [getD_get hn]
  refine ⟨h2, fun he => ?_, fun he => ?_⟩
  · simp only [Rounds, w64 (n := x2 + 1) (by omega) (by omega)]
    refine ⟨?_, by simp only [txMu]; omega, ?_⟩
    · simp only [txPre, Bool.and_eq_true, decide_eq_true_eq]
      exact ⟨⟨h1, by omega⟩, by omega⟩
    · simp only [txFn, show (x2 + 1).toNat = x2.toNat + 1 by omega, e1, List.all_cons, he, Bool.true_and]
  · simp only [Rounds, txFn, e1, List.all_cons, he, Bool.false_and, Bool.false_eq_true, if_false]

theorem tx_end {x1 : List UInt8} {x2 : Int} (hp : txPre (x1, (x2, ())) = true) (hlt : ¬ x2 < (x1.length : Int)) :
    Rounds txPre txMu txFn (x1, (x2, ())) (some (.inr (.inr (x1, ())))) := by
  simp only [txPre, Bool.and_eq_true, decide_eq_true_eq] at hp
  obtain ⟨⟨h1, h2⟩, h3⟩ := hp
  simp only [Rounds, txFn]
  rw [List.drop_eq_nil_of_le (by omega)]
  rfl

theorem tx_eq {x0 : List UInt8} (h : x0.length ≤ maxLen) : txPre (x0, ((0 : Int), ())) = true := by simp [txPre, h]

abbrev impl_wordsOk := wordsOk
abbrev spec_l2Text := wordsOk
namespace impl_wordsOk
def pre2 := txPre
def fn2 := txFn
def mu2 := txMu
noncomputable def raw2 (x1 : (List UInt8)) (x2 : Int) : Option (((List UInt8) × (Int × Unit)) ⊕ ((Bool × Unit) ⊕ ((List UInt8) × Unit))) :=
 if (decide (x2 < ((List.length x1 : Nat) : Int))) = true then
  if (decide ((0 : Int) ≤ x2)) = true then
   if (decide (x2 < ((List.length x1 : Nat) : Int))) = true then
    if (decide (((UInt8.toNat (List.getD x1 (Int.toNat x2) 0) : Nat) : Int) < (97 : Int))) = true then
     if (decide (((UInt8.toNat (List.getD x1 (Int.toNat x2) 0) : Nat) : Int) < (48 : Int))) = true then
      if (!(decide (((UInt8.toNat (List.getD x1 (Int.toNat x2) 0) : Nat) : Int) = (32 : Int)))) = true then
       some (.inr (.inl (false, ())))
      else
       some (.inl (x1, ((IntKind.wrap .i64 (x2 + (1 : Int))), ())))
     else
      if (decide ((57 : Int) < ((UInt8.toNat (List.getD x1 (Int.toNat x2) 0) : Nat) : Int))) = true then
       if (!(decide (((UInt8.toNat (List.getD x1 (Int.toNat x2) 0) : Nat) : Int) = (32 : Int)))) = true then
        some (.inr (.inl (false, ())))
       else
        some (.inl (x1, ((IntKind.wrap .i64 (x2 + (1 : Int))), ())))
      else
       some (.inl (x1, ((IntKind.wrap .i64 (x2 + (1 : Int))), ())))
    else
     if (decide ((122 : Int) < ((UInt8.toNat (List.getD x1 (Int.toNat x2) 0) : Nat) : Int))) = true then
      if (decide (((UInt8.toNat (List.getD x1 (Int.toNat x2) 0) : Nat) : Int) < (48 : Int))) = true then
       if (!(decide (((UInt8.toNat (List.getD x1 (Int.toNat x2) 0) : Nat) : Int) = (32 : Int)))) = true then
        some (.inr (.inl (false, ())))
       else
        some (.inl (x1, ((IntKind.wrap .i64 (x2 + (1 : Int))), ())))
      else
       if (decide ((57 : Int) < ((UInt8.toNat (List.getD x1 (Int.toNat x2) 0) : Nat) : Int))) = true then
        if (!(decide (((UInt8.toNat (List.getD x1 (Int.toNat x2) 0) : Nat) : Int) = (32 : Int)))) = true then
         some (.inr (.inl (false, ())))
        else
         some (.inl (x1, ((IntKind.wrap .i64 (x2 + (1 : Int))), ())))
       else
        some (.inl (x1, ((IntKind.wrap .i64 (x2 + (1 : Int))), ())))
     else
      some (.inl (x1, ((IntKind.wrap .i64 (x2 + (1 : Int))), ())))
   else
    none
  else
   none
 else
  some (.inr (.inr (x1, ())))
abbrev wf (x0 : (List UInt8)) : Prop := wfA [(.val .str .f)] (x0, ())
noncomputable def raw (x0 : (List UInt8)) : Option (Unit × (Bool × Unit)) :=
 if (impl_wordsOk.pre2 (x0, ((0 : Int), ()))) = true then
  match (impl_wordsOk.fn2 (x0, ((0 : Int), ()))) with
  | .inl y =>
   some ((), y)
  | .inr y =>
   some ((), ((decide (((List.length y.1 : Nat) : Int) ≤ (30 : Int))), ()))
 else
  none
theorem ok2 (x1 : List UInt8) (x2 : Int) (hp : pre2 (x1, (x2, ())) = true) : Rounds pre2 mu2 fn2 (x1, (x2, ())) (raw2 x1 x2) := by
  unfold raw2
  by_cases hlt : x2 < (x1.length : Int)
  · obtain ⟨h1, h2, h3⟩ := tx_next hp hlt
    simp only [hlt, h1, decide_true, if_true, decide_eq_true_eq, Bool.not_eq_true', decide_eq_false_iff_not]
    generalize hc : (x1.getD x2.toNat 0) = c at *
    have hk : chOk c = true ∨ chOk c = false := by cases chOk c <;> simp
    unfold chOk at hk h2 h3
    simp only [Bool.or_eq_true, Bool.and_eq_true, decide_eq_true_eq, Bool.or_eq_false_iff, Bool.and_eq_false_iff, decide_eq_false_iff_not] at hk h2 h3
    repeat' split
    all_goals first | (exact h2 (by omega)) | (exact h3 (by omega))
  · simp only [hlt, decide_false, Bool.false_eq_true, if_false]
    exact tx_end hp hlt
theorem eq (x0 : List UInt8) (hw : wf x0) : raw x0 = some ((), (impl_wordsOk x0, ())) := by
  have h1 : x0.length ≤ maxLen := hw.1
  unfold raw impl_wordsOk wordsOk
  rw [if_pos (show pre2 _ = true from tx_eq h1)]
  simp only [fn2, txFn, Int.toNat_zero, List.drop_zero]
  by_cases h : x0.all chOk = true
  · rw [if_pos h, h]
    by_cases hl : x0.length ≤ 30
    · simp [hl]; omega
    · simp [hl]; omega
  · rw [if_neg h]; simp [h]
end impl_wordsOk
namespace spec_l2Text
def pre2 := txPre
def fn2 := txFn
def mu2 := txMu
noncomputable def raw2 (x1 : (List UInt8)) (x2 : Int) : Option (((List UInt8) × (Int × Unit)) ⊕ ((Bool × Unit) ⊕ ((List UInt8) × Unit))) :=
 if (decide (x2 < ((List.length x1 : Nat) : Int))) = true then
  if (decide ((0 : Int) ≤ x2)) = true then
   if (decide (x2 < ((List.length x1 : Nat) : Int))) = true then
    if (decide ((97 : Int) ≤ ((UInt8.toNat (List.getD x1 (Int.toNat x2) 0) : Nat) : Int))) = true then
     if (decide (((UInt8.toNat (List.getD x1 (Int.toNat x2) 0) : Nat) : Int) ≤ (122 : Int))) = true then
      if (!true) = true then
       some (.inr (.inl (false, ())))
      else
       some (.inl (x1, ((IntKind.wrap .i64 (x2 + (1 : Int))), ())))
     else
      if (decide ((48 : Int) ≤ ((UInt8.toNat (List.getD x1 (Int.toNat x2) 0) : Nat) : Int))) = true then
       if (decide (((UInt8.toNat (List.getD x1 (Int.toNat x2) 0) : Nat) : Int) ≤ (57 : Int))) = true then
        if (!true) = true then
         some (.inr (.inl (false, ())))
        else
         some (.inl (x1, ((IntKind.wrap .i64 (x2 + (1 : Int))), ())))
       else
        if (!(decide (((UInt8.toNat (List.getD x1 (Int.toNat x2) 0) : Nat) : Int) = (32 : Int)))) = true then
         some (.inr (.inl (false, ())))
        else
         some (.inl (x1, ((IntKind.wrap .i64 (x2 + (1 : Int))), ())))
      else
       if (!(decide (((UInt8.toNat (List.getD x1 (Int.toNat x2) 0) : Nat) : Int) = (32 : Int)))) = true then
        some (.inr (.inl (false, ())))
       else
        some (.inl (x1, ((IntKind.wrap .i64 (x2 + (1 : Int))), ())))
    else
     if (decide ((48 : Int) ≤ ((UInt8.toNat (List.getD x1 (Int.toNat x2) 0) : Nat) : Int))) = true then
      if (decide (((UInt8.toNat (List.getD x1 (Int.toNat x2) 0) : Nat) : Int) ≤ (57 : Int))) = true then
       if (!true) = true then
        some (.inr (.inl (false, ())))
       else
        some (.inl (x1, ((IntKind.wrap .i64 (x2 + (1 : Int))), ())))
      else
       if (!(decide (((UInt8.toNat (List.getD x1 (Int.toNat x2) 0) : Nat) : Int) = (32 : Int)))) = true then
        some (.inr (.inl (false, ())))
       else
        some (.inl (x1, ((IntKind.wrap .i64 (x2 + (1 : Int))), ())))
     else
      if (!(decide (((UInt8.toNat (List.getD x1 (Int.toNat x2) 0) : Nat) : Int) = (32 : Int)))) = true then
       some (.inr (.inl (false, ())))
      else
       some (.inl (x1, ((IntKind.wrap .i64 (x2 + (1 : Int))), ())))
   else
    none
  else
   none
 else
  some (.inr (.inr (x1, ())))
abbrev wf (x0 : (List UInt8)) : Prop := wfA [(.val .str .f)] (x0, ())
noncomputable def raw (x0 : (List UInt8)) : Option (Unit × (Bool × Unit)) :=
 if (spec_l2Text.pre2 (x0, ((0 : Int), ()))) = true then
  match (spec_l2Text.fn2 (x0, ((0 : Int), ()))) with
  | .inl y =>
   some ((), y)
  | .inr y =>
   some ((), ((decide (((List.length y.1 : Nat) : Int) ≤ (30 : Int))), ()))
 else
  none
theorem ok2 (x1 : List UInt8) (x2 : Int) (hp : pre2 (x1, (x2, ())) = true) : Rounds pre2 mu2 fn2 (x1, (x2, ())) (raw2 x1 x2) := by
  unfold raw2
  by_cases hlt : x2 < (x1.length : Int)
  · obtain ⟨h1, h2, h3⟩ := tx_next hp hlt
    simp only [hlt, h1, decide_true, if_true, decide_eq_true_eq, Bool.not_eq_true', decide_eq_false_iff_not, Bool.not_true, Bool.false_eq_true, if_false]
    generalize hc : (x1.getD x2.toNat 0) = c at *
    have hk : chOk c = true ∨ chOk c = false := by cases chOk c <;> simp
    unfold chOk at hk h2 h3
    simp only [Bool.or_eq_true, Bool.and_eq_true, decide_eq_true_eq, Bool.or_eq_false_iff, Bool.and_eq_false_iff, decide_eq_false_iff_not] at hk h2 h3
    repeat' split
    all_goals first | (exact h2 (by omega)) | (exact h3 (by omega))
  · simp only [hlt, decide_false, Bool.false_eq_true, if_false]
    exact tx_end hp hlt
theorem eq (x0 : List UInt8) (hw : wf x0) : raw x0 = some ((), (spec_l2Text x0, ())) := by
  have h1 : x0.length ≤ maxLen := hw.1
  unfold raw spec_l2Text wordsOk
  rw [if_pos (show pre2 _ = true from tx_eq h1)]
  simp only [fn2, txFn, Int.toNat_zero, List.drop_zero]
  by_cases h : x0.all chOk = true
  · rw [if_pos h, h]
    by_cases hl : x0.length ≤ 30
    · simp [hl]; omega
    · simp [hl]; omega
  · rw [if_neg h]; simp [h]
end spec_l2Text

/-! ### commands -/
def CmdOk (c : Cmd) : Bool :=
  if c.1 = -1 then decide (c.1 = -1) && (decide (c.2.1 = 0) && (decide (c.2.2.1 = 0) && (decide (c.2.2.2.1 = 0) && (decide (c.2.2.2.2.1 = 0) && (decide (c.2.2.2.2.2.1 = 0) && (c.2.2.2.2.2.2.1 == [] && c.2.2.2.2.2.2.2.1 == []))))))
  else impl_within c.1 0 3 && (impl_within c.2.1 1 100000 && (impl_within c.2.2.1 1 10 && (impl_within c.2.2.2.1 0 100000 && (impl_within c.2.2.2.2.1 0 100000 && (impl_within c.2.2.2.2.2.1 0 100000 && (wordsOk c.2.2.2.2.2.2.1 && wordsOk c.2.2.2.2.2.2.2.1))))))
abbrev impl_CmdOk := CmdOk
abbrev spec_CmdOk := CmdOk
namespace impl_CmdOk
abbrev wf (x0 : Cmd) : Prop := wfA [(.val (.pair (.int .i64) (.pair (.int .i64) (.pair (.int .i64) (.pair (.int .i64) (.pair (.int .i64) (.pair (.int .i64) (.pair .str (.pair .str .unit)))))))) .f)] (x0, ())
noncomputable def raw (x0 : Cmd) : Option (Unit × (Bool × Unit)) :=
 if (decide (x0.1 = (-1 : Int))) = true then
  some ((), (((decide (x0.1 = (-1 : Int))) && ((decide (x0.2.1 = (0 : Int))) && ((decide (x0.2.2.1 = (0 : Int))) && ((decide (x0.2.2.2.1 = (0 : Int))) && ((decide (x0.2.2.2.2.1 = (0 : Int))) && ((decide (x0.2.2.2.2.2.1 = (0 : Int))) && ((x0.2.2.2.2.2.2.1 == ([] : List UInt8)) && (x0.2.2.2.2.2.2.2.1 == ([] : List UInt8))))))))), ()))
 else
  if (impl_within x0.1 (0 : Int) (3 : Int)) = true then
   if (impl_within x0.2.1 (1 : Int) (100000 : Int)) = true then
    if (impl_within x0.2.2.1 (1 : Int) (10 : Int)) = true then
     if (impl_within x0.2.2.2.1 (0 : Int) (100000 : Int)) = true then
      if (impl_within x0.2.2.2.2.1 (0 : Int) (100000 : Int)) = true then
       if (impl_within x0.2.2.2.2.2.1 (0 : Int) (100000 : Int)) = true then
        if (wordsOk x0.2.2.2.2.2.2.1) = true then
         some ((), ((wordsOk x0.2.2.2.2.2.2.2.1), ()))
        else
         some ((), (false, ()))
       else
        some ((), (false, ()))
      else
       some ((), (false, ()))
     else
      some ((), (false, ()))
    else
     some ((), (false, ()))
   else
    some ((), (false, ()))
  else
   some ((), (false, ()))
theorem eq (x0 : Cmd) (_ : wf x0) : raw x0 = some ((), (impl_CmdOk x0, ())) := by
  unfold raw impl_CmdOk CmdOk
  simp only [decide_eq_true_eq]
  split
  · rfl
  · cases impl_within x0.1 0 3 <;> simp only [Bool.false_eq_true, if_false, if_true, Bool.false_and, Bool.true_and]
    cases impl_within x0.2.1 1 100000 <;> simp only [Bool.false_eq_true, if_false, if_true, Bool.false_and, Bool.true_and]
    cases impl_within x0.2.2.1 1 10 <;> simp only [Bool.false_eq_true, if_false, if_true, Bool.false_and, Bool.true_and]
    cases impl_within x0.2.2.2.1 0 100000 <;> simp only [Bool.false_eq_true, if_false, if_true, Bool.false_and, Bool.true_and]
    cases impl_within x0.2.2.2.2.1 0 100000 <;> simp only [Bool.false_eq_true, if_false, if_true, Bool.false_and, Bool.true_and]
    cases impl_within x0.2.2.2.2.2.1 0 100000 <;> simp only [Bool.false_eq_true, if_false, if_true, Bool.false_and, Bool.true_and]
    cases wordsOk x0.2.2.2.2.2.2.1 <;> simp only [Bool.false_eq_true, if_false, if_true, Bool.false_and, Bool.true_and]
end impl_CmdOk
namespace spec_CmdOk
abbrev wf (x0 : Cmd) : Prop := wfA [(.val (.pair (.int .i64) (.pair (.int .i64) (.pair (.int .i64) (.pair (.int .i64) (.pair (.int .i64) (.pair (.int .i64) (.pair .str (.pair .str .unit)))))))) .f)] (x0, ())
noncomputable def raw (x0 : Cmd) : Option (Unit × (Bool × Unit)) :=
 if (decide (x0.1 = (-1 : Int))) = true then
  some ((), (((decide (x0.1 = (-1 : Int))) && ((decide (x0.2.1 = (0 : Int))) && ((decide (x0.2.2.1 = (0 : Int))) && ((decide (x0.2.2.2.1 = (0 : Int))) && ((decide (x0.2.2.2.2.1 = (0 : Int))) && ((decide (x0.2.2.2.2.2.1 = (0 : Int))) && ((x0.2.2.2.2.2.2.1 == ([] : List UInt8)) && (x0.2.2.2.2.2.2.2.1 == ([] : List UInt8))))))))), ()))
 else
  if (impl_within x0.1 (0 : Int) (3 : Int)) = true then
   if (impl_within x0.2.1 (1 : Int) (100000 : Int)) = true then
    if (impl_within x0.2.2.1 (1 : Int) (10 : Int)) = true then
     if (impl_within x0.2.2.2.1 (0 : Int) (100000 : Int)) = true then
      if (impl_within x0.2.2.2.2.1 (0 : Int) (100000 : Int)) = true then
       if (impl_within x0.2.2.2.2.2.1 (0 : Int) (100000 : Int)) = true then
        if (wordsOk x0.2.2.2.2.2.2.1) = true then
         some ((), ((wordsOk x0.2.2.2.2.2.2.2.1), ()))
        else
         some ((), (false, ()))
       else
        some ((), (false, ()))
      else
       some ((), (false, ()))
     else
      some ((), (false, ()))
    else
     some ((), (false, ()))
   else
    some ((), (false, ()))
  else
   some ((), (false, ()))
theorem eq (x0 : Cmd) (_ : wf x0) : raw x0 = some ((), (spec_CmdOk x0, ())) := by
  unfold raw spec_CmdOk CmdOk
  simp only [decide_eq_true_eq]
  split
  · rfl
  · cases impl_within x0.1 0 3 <;> simp only [Bool.false_eq_true, if_false, if_true, Bool.false_and, Bool.true_and]
    cases impl_within x0.2.1 1 100000 <;> simp only [Bool.false_eq_true, if_false, if_true, Bool.false_and, Bool.true_and]
    cases impl_within x0.2.2.1 1 10 <;> simp only [Bool.false_eq_true, if_false, if_true, Bool.false_and, Bool.true_and]
    cases impl_within x0.2.2.2.1 0 100000 <;> simp only [Bool.false_eq_true, if_false, if_true, Bool.false_and, Bool.true_and]
    cases impl_within x0.2.2.2.2.1 0 100000 <;> simp only [Bool.false_eq_true, if_false, if_true, Bool.false_and, Bool.true_and]
    cases impl_within x0.2.2.2.2.2.1 0 100000 <;> simp only [Bool.false_eq_true, if_false, if_true, Bool.false_and, Bool.true_and]
    cases wordsOk x0.2.2.2.2.2.2.1 <;> simp only [Bool.false_eq_true, if_false, if_true, Bool.false_and, Bool.true_and]
end spec_CmdOk

/-! ### logs -/
abbrev E0 : Entry := ((0 : Int), (((0 : Int), ((0 : Int), ((0 : Int), ((0 : Int), ((0 : Int), ((0 : Int), (([] : List UInt8), (([] : List UInt8), ())))))))), ()))
def LastOf (l : Log) : Int × Int := if l.2.2.1.length = 0 then (l.1, l.2.1) else (IntKind.wrap .i64 (l.1 + (l.2.2.1.length : Int)), (l.2.2.1.getD (l.2.2.1.length - 1) E0).1)
abbrev impl_LastOf := LastOf
abbrev spec_LastOf := LastOf
namespace impl_LastOf
abbrev wf (x0 : Log) : Prop := wfA [(.val (.pair (.int .i64) (.pair (.int .i64) (.pair (.sl 0 (.pair (.int .i64) (.pair (.pair (.int .i64) (.pair (.int .i64) (.pair (.int .i64) (.pair (.int .i64) (.pair (.int .i64) (.pair (.int .i64) (.pair .str (.pair .str .unit)))))))) .unit))) .unit))) .f)] (x0, ())
noncomputable def raw (x0 : Log) : Option (Unit × Mark) :=
 if (decide ((0 : Int) < ((List.length x0.2.2.1 : Nat) : Int))) = true then
  if (decide ((0 : Int) ≤ (IntKind.wrap .i64 (((List.length x0.2.2.1 : Nat) : Int) - (1 : Int))))) = true then
   if (decide ((IntKind.wrap .i64 (((List.length x0.2.2.1 : Nat) : Int) - (1 : Int))) < ((List.length x0.2.2.1 : Nat) : Int))) = true then
    some ((), ((IntKind.wrap .i64 (x0.1 + ((List.length x0.2.2.1 : Nat) : Int))), ((List.getD x0.2.2.1 (Int.toNat (IntKind.wrap .i64 (((List.length x0.2.2.1 : Nat) : Int) - (1 : Int)))) ((0 : Int), (((0 : Int), ((0 : Int), ((0 : Int), ((0 : Int), ((0 : Int), ((0 : Int), (([] : List UInt8), (([] : List UInt8), ())))))))), ()))).1, ())))
   else
    none
  else
   none
 else
  some ((), (x0.1, (x0.2.1, ())))
theorem eq (x0 : Log) (hw : wf x0) : raw x0 = some ((), ((impl_LastOf x0).1, ((impl_LastOf x0).2, ()))) := by
  have h1 : x0.2.2.1.length ≤ maxLen := hw.1.2.2.1.1
  have hM := maxLen_eq
  unfold raw impl_LastOf LastOf
  by_cases h : x0.2.2.1.length = 0
  · simp [h]
  · rw [w64 (n := (x0.2.2.1.length : Int) - 1) (by omega) (by omega), if_pos (by rw [decide_eq_true_eq]; omega), if_pos (by rw [decide_eq_true_eq]; omega), if_pos (by rw [decide_eq_true_eq]; omega), if_neg h]
    rw [show ((x0.2.2.1.length : Int) - 1).toNat = x0.2.2.1.length - 1 by omega]
end impl_LastOf
namespace spec_LastOf
abbrev wf (x0 : Log) : Prop := wfA [(.val (.pair (.int .i64) (.pair (.int .i64) (.pair (.sl 0 (.pair (.int .i64) (.pair (.pair (.int .i64) (.pair (.int .i64) (.pair (.int .i64) (.pair (.int .i64) (.pair (.int .i64) (.pair (.int .i64) (.pair .str (.pair .str .unit)))))))) .unit))) .unit))) .f)] (x0, ())
noncomputable def raw (x0 : Log) : Option (Unit × Mark) :=
 if (decide (((List.length x0.2.2.1 : Nat) : Int) = (0 : Int))) = true then
  some ((), (x0.1, (x0.2.1, ())))
 else
  if (decide ((0 : Int) ≤ (IntKind.wrap .i64 (((List.length x0.2.2.1 : Nat) : Int) - (1 : Int))))) = true then
   if (decide ((IntKind.wrap .i64 (((List.length x0.2.2.1 : Nat) : Int) - (1 : Int))) < ((List.length x0.2.2.1 : Nat) : Int))) = true then
    some ((), ((IntKind.wrap .i64 (x0.1 + ((List.length x0.2.2.1 : Nat) : Int))), ((List.getD x0.2.2.1 (Int.toNat (IntKind.wrap .i64 (((List.length x0.2.2.1 : Nat) : Int) - (1 : Int)))) ((0 : Int), (((0 : Int), ((0 : Int), ((0 : Int), ((0 : Int), ((0 : Int), ((0 : Int), (([] : List UInt8), (([] : List UInt8), ())))))))), ()))).1, ())))
   else
    none
  else
   none
theorem eq (x0 : Log) (hw : wf x0) : raw x0 = some ((), ((spec_LastOf x0).1, ((spec_LastOf x0).2, ()))) := by
  have h1 : x0.2.2.1.length ≤ maxLen := hw.1.2.2.1.1
  have hM := maxLen_eq
  unfold raw spec_LastOf LastOf
  by_cases h : x0.2.2.1.length = 0
  · simp [h]
  · rw [w64 (n := (x0.2.2.1.length : Int) - 1) (by omega) (by omega), if_neg (by rw [decide_eq_true_eq]; omega), if_pos (by rw [decide_eq_true_eq]; omega), if_pos (by rw [decide_eq_true_eq]; omega), if_neg h]
    rw [show ((x0.2.2.1.length : Int) - 1).toNat = x0.2.2.1.length - 1 by omega]
end spec_LastOf

def Newer (l : Log) (a b : Int) : Bool := if (LastOf l).2 < b then true else if b = (LastOf l).2 then decide ((LastOf l).1 ≤ a) else false
abbrev impl_Newer := Newer
abbrev spec_Newer := Newer
namespace impl_Newer
abbrev wf (x0 : Log) (x1 : Int) (x2 : Int) : Prop := wfA [(.val (.pair (.int .i64) (.pair (.int .i64) (.pair (.sl 0 (.pair (.int .i64) (.pair (.pair (.int .i64) (.pair (.int .i64) (.pair (.int .i64) (.pair (.int .i64) (.pair (.int .i64) (.pair (.int .i64) (.pair .str (.pair .str .unit)))))))) .unit))) .unit))) .f), (.val (.int .i64) .f), (.val (.int .i64) .f)] (x0, (x1, (x2, ())))
noncomputable def raw (x0 : Log) (x1 : Int) (x2 : Int) : Option (Unit × (Bool × Unit)) :=
 if (decide ((LastOf x0).2 < x2)) = true then
  some ((), (true, ()))
 else
  if (decide (x2 = (LastOf x0).2)) = true then
   some ((), ((decide ((LastOf x0).1 ≤ x1)), ()))
  else
   some ((), (false, ()))
theorem eq (x0 : Log) (x1 x2 : Int) (_ : wf x0 x1 x2) : raw x0 x1 x2 = some ((), (impl_Newer x0 x1 x2, ())) := by
  unfold raw impl_Newer Newer
  simp only [decide_eq_true_eq]
  split
  · rfl
  · split <;> rfl
end impl_Newer
namespace spec_Newer
abbrev wf (x0 : Log) (x1 : Int) (x2 : Int) : Prop := wfA [(.val (.pair (.int .i64) (.pair (.int .i64) (.pair (.sl 0 (.pair (.int .i64) (.pair (.pair (.int .i64) (.pair (.int .i64) (.pair (.int .i64) (.pair (.int .i64) (.pair (.int .i64) (.pair (.int .i64) (.pair .str (.pair .str .unit)))))))) .unit))) .unit))) .f), (.val (.int .i64) .f), (.val (.int .i64) .f)] (x0, (x1, (x2, ())))
noncomputable def raw (x0 : Log) (x1 : Int) (x2 : Int) : Option (Unit × (Bool × Unit)) :=
 if (decide ((LastOf x0).2 < x2)) = true then
  some ((), (true, ()))
 else
  if (decide (x2 = (LastOf x0).2)) = true then
   some ((), ((decide ((LastOf x0).1 ≤ x1)), ()))
  else
   some ((), (false, ()))
theorem eq (x0 : Log) (x1 x2 : Int) (_ : wf x0 x1 x2) : raw x0 x1 x2 = some ((), (spec_Newer x0 x1 x2, ())) := by
  unfold raw spec_Newer Newer
  simp only [decide_eq_true_eq]
  split
  · rfl
  · split <;> rfl
end spec_Newer

/-- Terms rise, commands are right. -/
def listOk : List Entry → Int → Bool
  | [], _ => true
  | e :: r, t => impl_within e.1 t 300 && (CmdOk e.2.1 && listOk r e.1)
def LogOk (l : Log) : Bool := impl_within l.1 0 300 && (impl_within l.2.1 0 300 && (decide ((l.2.2.1.length : Int) ≤ 300 - l.1) && listOk l.2.2.1 l.2.1))
abbrev impl_LogOk := LogOk
abbrev spec_LogOk := LogOk

theorem lg_next {xs : List Entry} {t : Int} {i : Int} (h0 : 0 ≤ i) (hlt : i < (xs.length : Int)) (hl : xs.length ≤ maxLen) :
    listOk (xs.drop i.toNat) t = (impl_within (xs.getD i.toNat E0).1 t 300 && (CmdOk (xs.getD i.toNat E0).2.1 && listOk (xs.drop (IntKind.wrap .i64 (i + 1)).toNat) (xs.getD i.toNat E0).1)) ∧ 0 ≤ IntKind.wrap .i64 (i + 1) ∧ (IntKind.wrap .i64 (i + 1)).toNat ≤ xs.length ∧
      xs.length - (IntKind.wrap .i64 (i + 1)).toNat < xs.length - i.toNat := by
  have hM := maxLen_eq
  have hn : i.toNat < xs.length := by omega
  rw [w64 (by omega) (by omega), getD_get hn, List.drop_eq_getElem_cons hn, show (i + 1).toNat = i.toNat + 1 by omega]
  refine ⟨rfl, by omega, by omega, by omega⟩

namespace impl_LogOk
abbrev S := Int × (List Entry × (Int × (Int × Unit)))
def pre5 : S → Bool := fun s => decide (s.2.1.length ≤ maxLen) && (decide (s.2.2.1 = (s.2.1.length : Int)) && (decide (0 ≤ s.2.2.2.1) && decide (s.2.2.2.1.toNat ≤ s.2.1.length)))
def fn5 : S → (Bool × Unit) ⊕ Unit := fun s => if listOk (s.2.1.drop s.2.2.2.1.toNat) s.1 = true then .inr () else .inl (false, ())
def mu5 : S → Nat := fun s => s.2.1.length - s.2.2.2.1.toNat
noncomputable def raw5 (x1 : Int) (x2 : (List Entry)) (x3 : Int) (x4 : Int) : Option ((Int × ((List Entry) × Mark)) ⊕ ((Bool × Unit) ⊕ Unit)) :=
 if (decide (x4 < x3)) = true then
  if (decide ((0 : Int) ≤ x4)) = true then
   if (decide (x4 < ((List.length x2 : Nat) : Int))) = true then
    if (!(impl_within (List.getD x2 (Int.toNat x4) ((0 : Int), (((0 : Int), ((0 : Int), ((0 : Int), ((0 : Int), ((0 : Int), ((0 : Int), (([] : List UInt8), (([] : List UInt8), ())))))))), ()))).1 x1 (300 : Int))) = true then
     some (.inr (.inl (false, ())))
    else
     if (!(CmdOk (List.getD x2 (Int.toNat x4) ((0 : Int), (((0 : Int), ((0 : Int), ((0 : Int), ((0 : Int), ((0 : Int), ((0 : Int), (([] : List UInt8), (([] : List UInt8), ())))))))), ()))).2.1)) = true then
      some (.inr (.inl (false, ())))
     else
      some (.inl ((List.getD x2 (Int.toNat x4) ((0 : Int), (((0 : Int), ((0 : Int), ((0 : Int), ((0 : Int), ((0 : Int), ((0 : Int), (([] : List UInt8), (([] : List UInt8), ())))))))), ()))).1, (x2, (x3, ((IntKind.wrap .i64 (x4 + (1 : Int))), ())))))
   else
    none
  else
   none
 else
  some (.inr (.inr ()))
abbrev wf (x0 : Log) : Prop := wfA [(.val (.pair (.int .i64) (.pair (.int .i64) (.pair (.sl 0 (.pair (.int .i64) (.pair (.pair (.int .i64) (.pair (.int .i64) (.pair (.int .i64) (.pair (.int .i64) (.pair (.int .i64) (.pair (.int .i64) (.pair .str (.pair .str .unit)))))))) .unit))) .unit))) .f)] (x0, ())
noncomputable def raw (x0 : Log) : Option (Unit × (Bool × Unit)) :=
 if (!(impl_within x0.1 (0 : Int) (300 : Int))) = true then
  some ((), (false, ()))
 else
  if (!(impl_within x0.2.1 (0 : Int) (300 : Int))) = true then
   some ((), (false, ()))
  else
   if (decide ((IntKind.wrap .i64 ((300 : Int) - x0.1)) < ((List.length x0.2.2.1 : Nat) : Int))) = true then
    some ((), (false, ()))
   else
    if (impl_LogOk.pre5 (x0.2.1, (x0.2.2.1, (((List.length x0.2.2.1 : Nat) : Int), ((0 : Int), ()))))) = true then
     match (impl_LogOk.fn5 (x0.2.1, (x0.2.2.1, (((List.length x0.2.2.1 : Nat) : Int), ((0 : Int), ()))))) with
     | .inl y =>
      some ((), y)
     | .inr y =>
      some ((), (true, ()))
    else
     none
theorem ok5 (x1 : Int) (x2 : List Entry) (x3 x4 : Int) (hp : pre5 (x1, (x2, (x3, (x4, ())))) = true) : Rounds pre5 mu5 fn5 (x1, (x2, (x3, (x4, ())))) (raw5 x1 x2 x3 x4) := by
  simp only [pre5, Bool.and_eq_true, decide_eq_true_eq] at hp
  obtain ⟨h1, rfl, h3, h4⟩ := hp
  unfold raw5
  by_cases hlt : x4 < (x2.length : Int)
  · obtain ⟨g1, g2, g3, g4⟩ := lg_next (t := x1) h3 hlt h1
    simp only [hlt, h3, decide_true, if_true]
    cases hw : impl_within (x2.getD x4.toNat E0).1 x1 300 with
    | false => simp only [Rounds, fn5, g1, hw, Bool.false_and, Bool.not_false, Bool.false_eq_true, if_true, if_false]
    | true =>
      cases hc : CmdOk (x2.getD x4.toNat E0).2.1 with
      | false => simp only [Rounds, fn5, g1, hw, hc, Bool.false_and, Bool.true_and, Bool.not_false, Bool.not_true, Bool.false_eq_true, if_true, if_false]
      | true =>
        simp only [Bool.not_true, Bool.false_eq_true, if_false, Rounds]
        refine ⟨?_, g4, ?_⟩
        · simp only [pre5, Bool.and_eq_true, decide_eq_true_eq]
          exact ⟨h1, trivial, g2, g3⟩
        · simp only [fn5, g1, hw, hc, Bool.true_and]
  · simp only [hlt, decide_false, Bool.false_eq_true, if_false, Rounds, fn5]
    rw [List.drop_eq_nil_of_le (by omega)]
    rfl
theorem eq (x0 : Log) (hw : wf x0) : raw x0 = some ((), (impl_LogOk x0, ())) := by
  have h1 : x0.2.2.1.length ≤ maxLen := hw.1.2.2.1.1
  have hpre : pre5 (x0.2.1, (x0.2.2.1, (((x0.2.2.1.length : Nat) : Int), ((0 : Int), ())))) = true := by simp [pre5, h1]
  unfold raw impl_LogOk LogOk
  cases ha : impl_within x0.1 0 300 with
  | false => simp
  | true =>
    cases hb : impl_within x0.2.1 0 300 with
    | false => simp
    | true =>
      have ha' := ha
      simp only [impl_within, Bool.and_eq_true, decide_eq_true_eq] at ha'
      rw [w64 (by omega) (by omega)]
      by_cases hl : (x0.2.2.1.length : Int) ≤ 300 - x0.1
      · have hn : ¬ (300 - x0.1 < (x0.2.2.1.length : Int)) := by omega
        simp only [Bool.not_true, Bool.false_eq_true, if_false, hn, decide_false, hpre, if_true, fn5, Int.toNat_zero, List.drop_zero, hl, decide_true, Bool.true_and]
        cases listOk x0.2.2.1 x0.2.1 <;> rfl
      · have hn : 300 - x0.1 < (x0.2.2.1.length : Int) := by omega
        simp [hl, hn]
end impl_LogOk
namespace spec_LogOk
abbrev S := Int × (Int × (Log × Unit))
def pre5 : S → Bool := fun s => decide (s.2.2.1.2.2.1.length ≤ maxLen) && (decide (0 ≤ s.2.1) && decide (s.2.1.toNat ≤ s.2.2.1.2.2.1.length))
def fn5 : S → (Bool × Unit) ⊕ Unit := fun s => if listOk (s.2.2.1.2.2.1.drop s.2.1.toNat) s.1 = true then .inr () else .inl (false, ())
def mu5 : S → Nat := fun s => s.2.2.1.2.2.1.length - s.2.1.toNat
noncomputable def raw5 (x1 : Int) (x2 : Int) (x3 : Log) : Option ((Int × (Int × (Log × Unit))) ⊕ ((Bool × Unit) ⊕ Unit)) :=
 if (decide (x2 < ((List.length x3.2.2.1 : Nat) : Int))) = true then
  if (decide ((0 : Int) ≤ x2)) = true then
   if (decide (x2 < ((List.length x3.2.2.1 : Nat) : Int))) = true then
    if (!(impl_within (List.getD x3.2.2.1 (Int.toNat x2) ((0 : Int), (((0 : Int), ((0 : Int), ((0 : Int), ((0 : Int), ((0 : Int), ((0 : Int), (([] : List UInt8), (([] : List UInt8), ())))))))), ()))).1 x1 (300 : Int))) = true then
     some (.inr (.inl (false, ())))
    else
     if (decide ((0 : Int) ≤ x2)) = true then
      if (decide (x2 < ((List.length x3.2.2.1 : Nat) : Int))) = true then
       if (!(CmdOk (List.getD x3.2.2.1 (Int.toNat x2) ((0 : Int), (((0 : Int), ((0 : Int), ((0 : Int), ((0 : Int), ((0 : Int), ((0 : Int), (([] : List UInt8), (([] : List UInt8), ())))))))), ()))).2.1)) = true then
        some (.inr (.inl (false, ())))
       else
        if (decide ((0 : Int) ≤ x2)) = true then
         if (decide (x2 < ((List.length x3.2.2.1 : Nat) : Int))) = true then
          some (.inl ((List.getD x3.2.2.1 (Int.toNat x2) ((0 : Int), (((0 : Int), ((0 : Int), ((0 : Int), ((0 : Int), ((0 : Int), ((0 : Int), (([] : List UInt8), (([] : List UInt8), ())))))))), ()))).1, ((IntKind.wrap .i64 (x2 + (1 : Int))), (x3, ()))))
         else
          none
        else
         none
      else
       none
     else
      none
   else
    none
  else
   none
 else
  some (.inr (.inr ()))
abbrev wf (x0 : Log) : Prop := wfA [(.val (.pair (.int .i64) (.pair (.int .i64) (.pair (.sl 0 (.pair (.int .i64) (.pair (.pair (.int .i64) (.pair (.int .i64) (.pair (.int .i64) (.pair (.int .i64) (.pair (.int .i64) (.pair (.int .i64) (.pair .str (.pair .str .unit)))))))) .unit))) .unit))) .f)] (x0, ())
noncomputable def raw (x0 : Log) : Option (Unit × (Bool × Unit)) :=
 if (!(impl_within x0.1 (0 : Int) (300 : Int))) = true then
  some ((), (false, ()))
 else
  if (!(impl_within x0.2.1 (0 : Int) (300 : Int))) = true then
   some ((), (false, ()))
  else
   if (decide ((IntKind.wrap .i64 ((300 : Int) - x0.1)) < ((List.length x0.2.2.1 : Nat) : Int))) = true then
    some ((), (false, ()))
   else
    if (spec_LogOk.pre5 (x0.2.1, ((0 : Int), (x0, ())))) = true then
     match (spec_LogOk.fn5 (x0.2.1, ((0 : Int), (x0, ())))) with
     | .inl y =>
      some ((), y)
     | .inr y =>
      some ((), (true, ()))
    else
     none
theorem ok5 (x1 x2 : Int) (x3 : Log) (hp : pre5 (x1, (x2, (x3, ()))) = true) : Rounds pre5 mu5 fn5 (x1, (x2, (x3, ()))) (raw5 x1 x2 x3) := by
  simp only [pre5, Bool.and_eq_true, decide_eq_true_eq] at hp
  obtain ⟨h1, h3, h4⟩ := hp
  unfold raw5
  by_cases hlt : x2 < (x3.2.2.1.length : Int)
  · obtain ⟨g1, g2, g3, g4⟩ := lg_next (t := x1) h3 hlt h1
    simp only [hlt, h3, decide_true, if_true]
    cases hw : impl_within (x3.2.2.1.getD x2.toNat E0).1 x1 300 with
    | false => simp only [Rounds, fn5, g1, hw, Bool.false_and, Bool.not_false, Bool.false_eq_true, if_true, if_false]
    | true =>
      cases hc : CmdOk (x3.2.2.1.getD x2.toNat E0).2.1 with
      | false => simp only [Rounds, fn5, g1, hw, hc, Bool.false_and, Bool.true_and, Bool.not_false, Bool.not_true, Bool.false_eq_true, if_true, if_false]
      | true =>
        simp only [Bool.not_true, Bool.false_eq_true, if_false, Rounds]
        refine ⟨?_, g4, ?_⟩
        · simp only [pre5, Bool.and_eq_true, decide_eq_true_eq]
          exact ⟨h1, g2, g3⟩
        · simp only [fn5, g1, hw, hc, Bool.true_and]
  · simp only [hlt, decide_false, Bool.false_eq_true, if_false, Rounds, fn5]
    rw [List.drop_eq_nil_of_le (by omega)]
    rfl
theorem eq (x0 : Log) (hw : wf x0) : raw x0 = some ((), (spec_LogOk x0, ())) := by
  have h1 : x0.2.2.1.length ≤ maxLen := hw.1.2.2.1.1
  have hpre : pre5 (x0.2.1, ((0 : Int), (x0, ()))) = true := by simp [pre5, h1]
  unfold raw spec_LogOk LogOk
  cases ha : impl_within x0.1 0 300 with
  | false => simp
  | true =>
    cases hb : impl_within x0.2.1 0 300 with
    | false => simp
    | true =>
      have ha' := ha
      simp only [impl_within, Bool.and_eq_true, decide_eq_true_eq] at ha'
      rw [w64 (by omega) (by omega)]
      by_cases hl : (x0.2.2.1.length : Int) ≤ 300 - x0.1
      · have hn : ¬ (300 - x0.1 < (x0.2.2.1.length : Int)) := by omega
        simp only [Bool.not_true, Bool.false_eq_true, if_false, hn, decide_false, hpre, if_true, fn5, Int.toNat_zero, List.drop_zero, hl, decide_true, Bool.true_and]
        cases listOk x0.2.2.1 x0.2.1 <;> rfl
      · have hn : 300 - x0.1 < (x0.2.2.1.length : Int) := by omega
        simp [hl, hn]
end spec_LogOk

theorem szLog_pre {x : Log} (hl : x.2.2.1.length ≤ maxLen) (h : ¬ laws_szLog x 1048576 < 0) : small x.2.2.1 = true := by
  have := szLog_small hl h
  rw [small_iff]; omega

def laws_FnExactLastOf (_ : Log) : Bool := true
namespace laws_FnExactLastOf
abbrev wf (x0 : Log) : Prop := wfA [(.val (.pair (.int .i64) (.pair (.int .i64) (.pair (.sl 0 (.pair (.int .i64) (.pair (.pair (.int .i64) (.pair (.int .i64) (.pair (.int .i64) (.pair (.int .i64) (.pair (.int .i64) (.pair (.int .i64) (.pair .str (.pair .str .unit)))))))) .unit))) .unit))) .f)] (x0, ())
noncomputable def raw (x0 : Log) : Option (Unit × (Bool × Unit)) :=
 if (decide ((laws_szLog x0 (1048576 : Int)) < (0 : Int))) = true then
  some ((), (true, ()))
 else
  if (laws_toLog.pre x0) = true then
   if (laws_toLog.pre x0) = true then
    if (!(decide ((LastOf (laws_toLog x0)).1 = (LastOf (laws_toLog x0)).1))) = true then
     some ((), (false, ()))
    else
     if (!(decide ((LastOf (laws_toLog x0)).2 = (LastOf (laws_toLog x0)).2))) = true then
      some ((), (false, ()))
     else
      if (laws_toLog.pre x0) = true then
       if (!(laws_eqLog (laws_toLog x0) (laws_toLog x0))) = true then
        some ((), (false, ()))
       else
        some ((), (true, ()))
      else
       none
   else
    none
  else
   none
theorem eq (x0 : Log) (hw : wf x0) : raw x0 = some ((), (laws_FnExactLastOf x0, ())) := by
  unfold raw
  by_cases h : laws_szLog x0 1048576 < 0
  · simp [h, laws_FnExactLastOf]
  · have hp : laws_toLog.pre x0 = true := szLog_pre hw.1.2.2.1.1 h
    simp [h, hp, laws_toLog, eqLog_self, laws_FnExactLastOf]
end laws_FnExactLastOf
def laws_FnExactNewer (_ : Log) (_ _ : Int) : Bool := true
namespace laws_FnExactNewer
abbrev wf (x0 : Log) (x1 : Int) (x2 : Int) : Prop := wfA [(.val (.pair (.int .i64) (.pair (.int .i64) (.pair (.sl 0 (.pair (.int .i64) (.pair (.pair (.int .i64) (.pair (.int .i64) (.pair (.int .i64) (.pair (.int .i64) (.pair (.int .i64) (.pair (.int .i64) (.pair .str (.pair .str .unit)))))))) .unit))) .unit))) .f), (.val (.int .i64) .f), (.val (.int .i64) .f)] (x0, (x1, (x2, ())))
noncomputable def raw (x0 : Log) (x1 : Int) (x2 : Int) : Option (Unit × (Bool × Unit)) :=
 if (decide ((laws_szLog x0 (1048576 : Int)) < (0 : Int))) = true then
  some ((), (true, ()))
 else
  if (laws_toLog.pre x0) = true then
   if (laws_toLog.pre x0) = true then
    if (!((Newer (laws_toLog x0) x1 x2) == (Newer (laws_toLog x0) x1 x2))) = true then
     some ((), (false, ()))
    else
     if (laws_toLog.pre x0) = true then
      if (!(laws_eqLog (laws_toLog x0) (laws_toLog x0))) = true then
       some ((), (false, ()))
      else
       some ((), (true, ()))
     else
      none
   else
    none
  else
   none
theorem eq (x0 : Log) (x1 x2 : Int) (hw : wf x0 x1 x2) : raw x0 x1 x2 = some ((), (laws_FnExactNewer x0 x1 x2, ())) := by
  unfold raw
  by_cases h : laws_szLog x0 1048576 < 0
  · simp [h, laws_FnExactNewer]
  · have hp : laws_toLog.pre x0 = true := szLog_pre hw.1.2.2.1.1 h
    simp [h, hp, laws_toLog, eqLog_self, laws_FnExactNewer]
end laws_FnExactNewer
def laws_FnExactLogOk (_ : Log) : Bool := true
namespace laws_FnExactLogOk
abbrev wf (x0 : Log) : Prop := wfA [(.val (.pair (.int .i64) (.pair (.int .i64) (.pair (.sl 0 (.pair (.int .i64) (.pair (.pair (.int .i64) (.pair (.int .i64) (.pair (.int .i64) (.pair (.int .i64) (.pair (.int .i64) (.pair (.int .i64) (.pair .str (.pair .str .unit)))))))) .unit))) .unit))) .f)] (x0, ())
noncomputable def raw (x0 : Log) : Option (Unit × (Bool × Unit)) :=
 if (decide ((laws_szLog x0 (1048576 : Int)) < (0 : Int))) = true then
  some ((), (true, ()))
 else
  if (laws_toLog.pre x0) = true then
   if (laws_toLog.pre x0) = true then
    if (!((LogOk (laws_toLog x0)) == (LogOk (laws_toLog x0)))) = true then
     some ((), (false, ()))
    else
     if (laws_toLog.pre x0) = true then
      if (!(laws_eqLog (laws_toLog x0) (laws_toLog x0))) = true then
       some ((), (false, ()))
      else
       some ((), (true, ()))
     else
      none
   else
    none
  else
   none
theorem eq (x0 : Log) (hw : wf x0) : raw x0 = some ((), (laws_FnExactLogOk x0, ())) := by
  unfold raw
  by_cases h : laws_szLog x0 1048576 < 0
  · simp [h, laws_FnExactLogOk]
  · have hp : laws_toLog.pre x0 = true := szLog_pre hw.1.2.2.1.1 h
    simp [h, hp, laws_toLog, eqLog_self, laws_FnExactLogOk]
end laws_FnExactLogOk
end Go.Aw.Pl
