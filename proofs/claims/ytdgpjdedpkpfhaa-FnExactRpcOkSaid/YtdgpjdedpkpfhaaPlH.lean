/-
  Notes and messages that are right.
-/
import Derived.Test.YtdgpjdedpkpfhaaPlF
namespace Go.Aw.Pl
open Go Go.Aw

/-! ### searching -/
section
variable {α : Type}
def idxF (g : α → Bool) : List α → Int → Int
  | [], _ => -1
  | a :: r, i => if g a = true then i else idxF g r (i + 1)
theorem idxF_lo (g : α → Bool) : (xs : List α) → (i : Int) → 0 ≤ i → -1 ≤ idxF g xs i ∧ (0 ≤ idxF g xs i ↔ xs.any g = true)
  | [], i, h => by simp [idxF]
  | a :: r, i, h => by
    simp only [idxF, List.any_cons]
    by_cases ha : g a = true
    · simp [ha]; omega
    · have := idxF_lo g r (i + 1) (by omega)
      simp only [Bool.not_eq_true] at ha
      simp only [ha, Bool.false_eq_true, if_false, Bool.false_or]
      exact this

abbrev IxS (α : Type) := List α × ((α → Bool) × ((α → Bool) × (Int × (Int × Unit))))
def ixPre : IxS α → Bool := fun s => decide (s.1.length ≤ maxLen) && (decide (s.2.2.2.1 = (s.1.length : Int)) && (decide (0 ≤ s.2.2.2.2.1) && (decide (s.2.2.2.2.1.toNat ≤ s.1.length) && s.1.all s.2.1)))
def ixFn : IxS α → (Int × Unit) ⊕ Unit := fun s => if idxF s.2.2.1 (s.1.drop s.2.2.2.2.1.toNat) s.2.2.2.2.1 < 0 then .inr () else .inl (idxF s.2.2.1 (s.1.drop s.2.2.2.2.1.toNat) s.2.2.2.2.1, ())
def ixMu : IxS α → Nat := fun s => s.1.length - s.2.2.2.2.1.toNat

theorem ix_next {x1 : List α} {x2 x3 : α → Bool} {x4 x5 : Int} (hp : ixPre (x1, (x2, (x3, (x4, (x5, ()))))) = true) (hlt : x5 < x4) (d : α) :
    0 ≤ x5 ∧ x5 < (x1.length : Int) ∧ x2 (x1.getD x5.toNat d) = true ∧ (x3 (x1.getD x5.toNat d) = true → Rounds ixPre ixMu ixFn (x1, (x2, (x3, (x4, (x5, ()))))) (some (.inr (.inl (x5, ()))))) ∧
      (¬ x3 (x1.getD x5.toNat d) = true → Rounds ixPre ixMu ixFn (x1, (x2, (x3, (x4, (x5, ()))))) (some (.inl (x1, (x2, (x3, (x4, (IntKind.wrap .i64 (x5 + 1), ())))))))) := by
  simp only [ixPre, Bool.and_eq_true, decide_eq_true_eq] at hp
  obtain ⟨h1, rfl, h3, h4, h5⟩ := hp
  have hM := maxLen_eq
  have hn : x5.toNat < x1.length := by omega
  have e1 := List.drop_eq_getElem_cons hn
  rw [getD_get hn]
  refine ⟨h3, hlt, List.all_eq_true.1 h5 _ (List.getElem_mem hn), fun he => ?_, fun he => ?_⟩
  · simp only [Rounds, ixFn, e1, idxF, he, if_true]
    rw [if_neg (by omega)]
  · simp only [Rounds, w64 (n := x5 + 1) (by omega) (by omega)]
    refine ⟨?_, by simp only [ixMu]; omega, ?_⟩
    · simp only [ixPre, Bool.and_eq_true, decide_eq_true_eq]
      exact ⟨h1, trivial, by omega, by omega, h5⟩
    · simp only [ixFn, show (x5 + 1).toNat = x5.toNat + 1 by omega, e1, idxF, he, if_false]
      rfl

theorem ix_end {x1 : List α} {x2 x3 : α → Bool} {x4 x5 : Int} (hp : ixPre (x1, (x2, (x3, (x4, (x5, ()))))) = true) (hlt : ¬ x5 < x4) :
    Rounds ixPre ixMu ixFn (x1, (x2, (x3, (x4, (x5, ()))))) (some (.inr (.inr ()))) := by
  simp only [ixPre, Bool.and_eq_true, decide_eq_true_eq] at hp
  obtain ⟨h1, rfl, h3, h4, h5⟩ := hp
  simp only [Rounds, ixFn]
  rw [List.drop_eq_nil_of_le (by omega)]
  rfl
end

def slices_IndexFunc_Entry (xs : List Entry) (p : (Entry → Bool) × (Entry → Bool)) : Int := idxF p.2 xs 0
namespace slices_IndexFunc_Entry
def pre (xs : List Entry) (p : (Entry → Bool) × (Entry → Bool)) : Bool := xs.all p.1
def pre2 := ixPre (α := Entry)
def fn2 := ixFn (α := Entry)
def mu2 := ixMu (α := Entry)
noncomputable def raw2 (x1 : (List Entry)) (x2 : (Entry → Bool)) (x3 : (Entry → Bool)) (x4 : Int) (x5 : Int) : Option (((List Entry) × ((Entry → Bool) × ((Entry → Bool) × Mark))) ⊕ ((Int × Unit) ⊕ Unit)) :=
 if (decide (x5 < x4)) = true then
  if (decide ((0 : Int) ≤ x5)) = true then
   if (decide (x5 < ((List.length x1 : Nat) : Int))) = true then
    if (x2 (List.getD x1 (Int.toNat x5) ((0 : Int), (((0 : Int), ((0 : Int), ((0 : Int), ((0 : Int), ((0 : Int), ((0 : Int), (([] : List UInt8), (([] : List UInt8), ())))))))), ())))) = true then
     if (x3 (List.getD x1 (Int.toNat x5) ((0 : Int), (((0 : Int), ((0 : Int), ((0 : Int), ((0 : Int), ((0 : Int), ((0 : Int), (([] : List UInt8), (([] : List UInt8), ())))))))), ())))) = true then
      some (.inr (.inl (x5, ())))
     else
      some (.inl (x1, (x2, (x3, (x4, ((IntKind.wrap .i64 (x5 + (1 : Int))), ()))))))
    else
     none
   else
    none
  else
   none
 else
  some (.inr (.inr ()))
abbrev wf (x0 : (List Entry)) (x1 : ((Entry → Bool) × (Entry → Bool))) : Prop := wfA [(.val (.sl 0 (.pair (.int .i64) (.pair (.pair (.int .i64) (.pair (.int .i64) (.pair (.int .i64) (.pair (.int .i64) (.pair (.int .i64) (.pair (.int .i64) (.pair .str (.pair .str .unit)))))))) .unit))) .f), (.fn (.pair (.int .i64) (.pair (.pair (.int .i64) (.pair (.int .i64) (.pair (.int .i64) (.pair (.int .i64) (.pair (.int .i64) (.pair (.int .i64) (.pair .str (.pair .str .unit)))))))) .unit)) .bool)] (x0, (x1, ()))
noncomputable def raw (x0 : (List Entry)) (x1 : ((Entry → Bool) × (Entry → Bool))) : Option (Unit × (Int × Unit)) :=
 if (slices_IndexFunc_Entry.pre2 (x0, (x1.1, (x1.2, (((List.length x0 : Nat) : Int), ((0 : Int), ())))))) = true then
  match (slices_IndexFunc_Entry.fn2 (x0, (x1.1, (x1.2, (((List.length x0 : Nat) : Int), ((0 : Int), ())))))) with
  | .inl y =>
   some ((), y)
  | .inr y =>
   some ((), ((-1 : Int), ()))
 else
  none
theorem ok2 (x1 : List Entry) (x2 x3 : Entry → Bool) (x4 x5 : Int) (hp : pre2 (x1, (x2, (x3, (x4, (x5, ()))))) = true) : Rounds pre2 mu2 fn2 (x1, (x2, (x3, (x4, (x5, ()))))) (raw2 x1 x2 x3 x4 x5) := by
  unfold raw2
  by_cases hlt : x5 < x4
  · obtain ⟨h1, h2, h3, h4, h5⟩ := ix_next hp hlt E0
    simp only [hlt, h1, h2, h3, decide_true, if_true]
    split
    · rename_i h; exact h4 h
    · rename_i h; exact h5 h
  · simp only [hlt, decide_false, Bool.false_eq_true, if_false]
    exact ix_end hp hlt
theorem eq (x0 : List Entry) (x1 : (Entry → Bool) × (Entry → Bool)) (hw : wf x0 x1) (hp : pre x0 x1 = true) : raw x0 x1 = some ((), (slices_IndexFunc_Entry x0 x1, ())) := by
  have h1 : x0.length ≤ maxLen := hw.1.1
  unfold raw
  rw [if_pos (show pre2 _ = true by simp only [pre2, ixPre, Bool.and_eq_true, decide_eq_true_eq]; exact ⟨h1, trivial, by omega, by simp, hp⟩)]
  have hlo := (idxF_lo x1.2 x0 0 (by omega)).1
  by_cases h : idxF x1.2 x0 0 < 0
  · have hf : fn2 (x0, (x1.1, (x1.2, (((x0.length : Nat) : Int), ((0 : Int), ()))))) = .inr () := if_pos h
    rw [hf]
    show _ = some ((), (idxF x1.2 x0 0, ()))
    rw [show idxF x1.2 x0 0 = -1 by omega]
  · have hf : fn2 (x0, (x1.1, (x1.2, (((x0.length : Nat) : Int), ((0 : Int), ()))))) = .inl (idxF x1.2 x0 0, ()) := if_neg h
    rw [hf]; rfl
end slices_IndexFunc_Entry

def slices_ContainsFunc_Entry (xs : List Entry) (p : (Entry → Bool) × (Entry → Bool)) : Bool := xs.any p.2
namespace slices_ContainsFunc_Entry
def pre (xs : List Entry) (p : (Entry → Bool) × (Entry → Bool)) : Bool := xs.all p.1
abbrev wf (x0 : (List Entry)) (x1 : ((Entry → Bool) × (Entry → Bool))) : Prop := wfA [(.val (.sl 0 (.pair (.int .i64) (.pair (.pair (.int .i64) (.pair (.int .i64) (.pair (.int .i64) (.pair (.int .i64) (.pair (.int .i64) (.pair (.int .i64) (.pair .str (.pair .str .unit)))))))) .unit))) .f), (.fn (.pair (.int .i64) (.pair (.pair (.int .i64) (.pair (.int .i64) (.pair (.int .i64) (.pair (.int .i64) (.pair (.int .i64) (.pair (.int .i64) (.pair .str (.pair .str .unit)))))))) .unit)) .bool)] (x0, (x1, ()))
noncomputable def raw (x0 : (List Entry)) (x1 : ((Entry → Bool) × (Entry → Bool))) : Option (Unit × (Bool × Unit)) :=
 if (slices_IndexFunc_Entry.pre x0 x1) = true then
  some ((), ((decide ((0 : Int) ≤ (slices_IndexFunc_Entry x0 x1))), ()))
 else
  none
theorem eq (x0 : List Entry) (x1 : (Entry → Bool) × (Entry → Bool)) (_ : wf x0 x1) (hp : pre x0 x1 = true) : raw x0 x1 = some ((), (slices_ContainsFunc_Entry x0 x1, ())) := by
  unfold raw slices_ContainsFunc_Entry slices_IndexFunc_Entry
  rw [if_pos (show slices_IndexFunc_Entry.pre _ _ = true from hp)]
  have h := (idxF_lo x1.2 x0 0 (by omega)).2
  by_cases ha : x0.any x1.2 = true
  · rw [ha, decide_eq_true (h.2 ha)]
  · have h0 : ¬ 0 ≤ idxF x1.2 x0 0 := fun hh => ha (h.1 hh)
    rw [decide_eq_false h0]
    simp only [Bool.not_eq_true] at ha
    rw [ha]
end slices_ContainsFunc_Entry

/-! ### notes -/
def eOk (t : Int) (e : Entry) : Bool := impl_within e.1 0 t && CmdOk e.2.1
def impl_NoteOk_1 (e : Entry) : Bool := !eOk 300 e
namespace impl_NoteOk_1
abbrev wf (x0 : Entry) : Prop := wfA [(.val (.pair (.int .i64) (.pair (.pair (.int .i64) (.pair (.int .i64) (.pair (.int .i64) (.pair (.int .i64) (.pair (.int .i64) (.pair (.int .i64) (.pair .str (.pair .str .unit)))))))) .unit)) .f)] (x0, ())
noncomputable def raw (x0 : Entry) : Option (Unit × (Bool × Unit)) :=
 if (!(impl_within x0.1 (0 : Int) (300 : Int))) = true then
  some ((), (true, ()))
 else
  some ((), ((!(CmdOk x0.2.1)), ()))
theorem eq (x0 : Entry) (_ : wf x0) : raw x0 = some ((), (impl_NoteOk_1 x0, ())) := by
  unfold raw impl_NoteOk_1 eOk
  cases impl_within x0.1 0 300 <;> simp
end impl_NoteOk_1
def spec_l9List (xs : List Entry) (t : Int) : Bool := xs.all (eOk t) && decide (xs.length ≤ 40)
namespace spec_l9List
abbrev S := List Entry × (Int × (Int × Unit))
def pre2 : S → Bool := fun s => decide (s.1.length ≤ maxLen) && (decide (0 ≤ s.2.2.1) && decide (s.2.2.1.toNat ≤ s.1.length))
def fn2 : S → (Bool × Unit) ⊕ (List Entry × Unit) := fun s => if (s.1.drop s.2.2.1.toNat).all (eOk s.2.1) = true then .inr (s.1, ()) else .inl (false, ())
def mu2 : S → Nat := fun s => s.1.length - s.2.2.1.toNat
noncomputable def raw2 (x1 : (List Entry)) (x2 : Int) (x3 : Int) : Option (((List Entry) × Mark) ⊕ ((Bool × Unit) ⊕ ((List Entry) × Unit))) :=
 if (decide (x3 < ((List.length x1 : Nat) : Int))) = true then
  if (decide ((0 : Int) ≤ x3)) = true then
   if (decide (x3 < ((List.length x1 : Nat) : Int))) = true then
    if (!(impl_within (List.getD x1 (Int.toNat x3) ((0 : Int), (((0 : Int), ((0 : Int), ((0 : Int), ((0 : Int), ((0 : Int), ((0 : Int), (([] : List UInt8), (([] : List UInt8), ())))))))), ()))).1 (0 : Int) x2)) = true then
     some (.inr (.inl (false, ())))
    else
     if (decide ((0 : Int) ≤ x3)) = true then
      if (decide (x3 < ((List.length x1 : Nat) : Int))) = true then
       if (!(CmdOk (List.getD x1 (Int.toNat x3) ((0 : Int), (((0 : Int), ((0 : Int), ((0 : Int), ((0 : Int), ((0 : Int), ((0 : Int), (([] : List UInt8), (([] : List UInt8), ())))))))), ()))).2.1)) = true then
        some (.inr (.inl (false, ())))
       else
        some (.inl (x1, (x2, ((IntKind.wrap .i64 (x3 + (1 : Int))), ()))))
      else
       none
     else
      none
   else
    none
  else
   none
 else
  some (.inr (.inr (x1, ())))
abbrev wf (x0 : (List Entry)) (x1 : Int) : Prop := wfA [(.val (.sl 0 (.pair (.int .i64) (.pair (.pair (.int .i64) (.pair (.int .i64) (.pair (.int .i64) (.pair (.int .i64) (.pair (.int .i64) (.pair (.int .i64) (.pair .str (.pair .str .unit)))))))) .unit))) .f), (.val (.int .i64) .f)] (x0, (x1, ()))
noncomputable def raw (x0 : (List Entry)) (x1 : Int) : Option (Unit × (Bool × Unit)) :=
 if (spec_l9List.pre2 (x0, (x1, ((0 : Int), ())))) = true then
  match (spec_l9List.fn2 (x0, (x1, ((0 : Int), ())))) with
  | .inl y =>
   some ((), y)
  | .inr y =>
   some ((), ((decide (((List.length y.1 : Nat) : Int) ≤ (40 : Int))), ()))
 else
  none
theorem ok2 (x1 : List Entry) (x2 x3 : Int) (hp : pre2 (x1, (x2, (x3, ()))) = true) : Rounds pre2 mu2 fn2 (x1, (x2, (x3, ()))) (raw2 x1 x2 x3) := by
  simp only [pre2, Bool.and_eq_true, decide_eq_true_eq] at hp
  obtain ⟨h1, h2, h3⟩ := hp
  have hM := maxLen_eq
  unfold raw2
  by_cases hlt : x3 < (x1.length : Int)
  · have hn : x3.toNat < x1.length := by omega
    have e1 := List.drop_eq_getElem_cons hn
    simp only [hlt, h2, decide_true, if_true, getD_get hn]
    cases ha : impl_within (x1[x3.toNat]).1 0 x2 with
    | false => simp only [Rounds, fn2, e1, List.all_cons, eOk, ha, Bool.false_and, Bool.not_false, Bool.false_eq_true, if_true, if_false]
    | true =>
      cases hb : CmdOk (x1[x3.toNat]).2.1 with
      | false => simp only [Rounds, fn2, e1, List.all_cons, eOk, ha, hb, Bool.true_and, Bool.false_and, Bool.not_false, Bool.not_true, Bool.false_eq_true, if_true, if_false]
      | true =>
        simp only [Bool.not_true, Bool.false_eq_true, if_false, Rounds, w64 (n := x3 + 1) (by omega) (by omega)]
        refine ⟨?_, by simp only [mu2]; omega, ?_⟩
        · simp only [pre2, Bool.and_eq_true, decide_eq_true_eq]
          exact ⟨h1, by omega, by omega⟩
        · simp only [fn2, show (x3 + 1).toNat = x3.toNat + 1 by omega, e1, List.all_cons]
          rw [show eOk x2 x1[x3.toNat] = true by simp [eOk, ha, hb], Bool.true_and]
  · simp only [hlt, decide_false, Bool.false_eq_true, if_false, Rounds, fn2]
    rw [List.drop_eq_nil_of_le (by omega)]
    rfl
theorem eq (x0 : List Entry) (x1 : Int) (hw : wf x0 x1) : raw x0 x1 = some ((), (spec_l9List x0 x1, ())) := by
  have h1 : x0.length ≤ maxLen := hw.1.1
  unfold raw spec_l9List
  rw [if_pos (show pre2 _ = true by simp [pre2, h1])]
  by_cases ha : x0.all (eOk x1) = true
  · have hf : fn2 (x0, (x1, ((0 : Int), ()))) = .inr (x0, ()) := if_pos ha
    rw [hf, ha]
    by_cases hl : x0.length ≤ 40
    · simp [hl]; omega
    · simp [hl]; omega
  · have hf : fn2 (x0, (x1, ((0 : Int), ()))) = .inl (false, ()) := if_neg ha
    rw [hf]
    simp only [Bool.not_eq_true] at ha
    simp [ha]
end spec_l9List

def kindOk (r : Note) : Bool :=
  if r.1 = 1 then impl_within r.2.2.1 (-1) 4 && (decide (r.2.2.2.1 = 0) && (decide ((r.2.2.2.2.1.length : Int) = 0) && r.2.2.2.2.2.1 == []))
  else if r.1 = 2 then decide (r.2.2.1 = 0) && r.2.2.2.2.2.1 == []
  else if r.1 = 3 then decide (r.2.2.1 = 0) && decide ((r.2.2.2.2.1.length : Int) = 0)
  else false
def NoteOk (r : Note) : Bool := impl_within r.2.1 0 300 && (impl_within r.2.2.2.1 0 300 && (spec_l9List r.2.2.2.2.1 300 && (decide ((r.2.2.2.2.2.1.length : Int) ≤ 30000) && kindOk r)))
abbrev impl_NoteOk := NoteOk
abbrev spec_NoteOk := NoteOk
theorem any_not {α : Type} (f : α → Bool) (xs : List α) : xs.any (fun x => !f x) = !xs.all f := by
  induction xs with
  | nil => rfl
  | cons a r ih => simp [ih, Bool.not_and]
namespace spec_NoteOk
abbrev wf (x0 : Note) : Prop := wfA [(.val (.pair (.int .i64) (.pair (.int .i64) (.pair (.int .i64) (.pair (.int .i64) (.pair (.sl 0 (.pair (.int .i64) (.pair (.pair (.int .i64) (.pair (.int .i64) (.pair (.int .i64) (.pair (.int .i64) (.pair (.int .i64) (.pair (.int .i64) (.pair .str (.pair .str .unit)))))))) .unit))) (.pair .str .unit)))))) .f)] (x0, ())
noncomputable def raw (x0 : Note) : Option (Unit × (Bool × Unit)) :=
 if (!(impl_within x0.2.1 (0 : Int) (300 : Int))) = true then
  some ((), (false, ()))
 else
  if (!(impl_within x0.2.2.2.1 (0 : Int) (300 : Int))) = true then
   some ((), (false, ()))
  else
   if (!(spec_l9List x0.2.2.2.2.1 (300 : Int))) = true then
    some ((), (false, ()))
   else
    if (decide ((30000 : Int) < ((List.length x0.2.2.2.2.2.1 : Nat) : Int))) = true then
     some ((), (false, ()))
    else
     if (decide (x0.1 = (1 : Int))) = true then
      if (impl_within x0.2.2.1 (-1 : Int) (4 : Int)) = true then
       if (decide (x0.2.2.2.1 = (0 : Int))) = true then
        if (decide (((List.length x0.2.2.2.2.1 : Nat) : Int) = (0 : Int))) = true then
         some ((), ((x0.2.2.2.2.2.1 == ([] : List UInt8)), ()))
        else
         some ((), (false, ()))
       else
        some ((), (false, ()))
      else
       some ((), (false, ()))
     else
      if (decide (x0.1 = (2 : Int))) = true then
       if (decide (x0.2.2.1 = (0 : Int))) = true then
        some ((), ((x0.2.2.2.2.2.1 == ([] : List UInt8)), ()))
       else
        some ((), (false, ()))
      else
       if (decide (x0.1 = (3 : Int))) = true then
        if (decide (x0.2.2.1 = (0 : Int))) = true then
         some ((), ((decide (((List.length x0.2.2.2.2.1 : Nat) : Int) = (0 : Int))), ()))
        else
         some ((), (false, ()))
       else
        some ((), (false, ()))
theorem eq (x0 : Note) (_ : wf x0) : raw x0 = some ((), (spec_NoteOk x0, ())) := by
  unfold raw spec_NoteOk NoteOk kindOk
  cases impl_within x0.2.1 0 300
  · simp
  cases impl_within x0.2.2.2.1 0 300
  · simp
  cases spec_l9List x0.2.2.2.2.1 300
  · simp
  by_cases hs : (x0.2.2.2.2.2.1.length : Int) ≤ 30000
  case neg =>
    have hs' : (30000 : Int) < (x0.2.2.2.2.2.1.length : Int) := by omega
    simp [hs, hs']
  have hs' : ¬ (30000 : Int) < (x0.2.2.2.2.2.1.length : Int) := by omega
  simp only [hs, hs', decide_true, decide_false, Bool.not_true, Bool.false_eq_true, if_false, Bool.true_and, decide_eq_true_eq]
  split
  · cases impl_within x0.2.2.1 (-1) 4 <;> simp only [Bool.false_eq_true, if_false, if_true, Bool.false_and, Bool.true_and]
    split
    · rename_i h; simp only [h, decide_true, Bool.true_and]
      split
      · rename_i h; simp only [h, decide_true, Bool.true_and]
      · rename_i h; simp only [h, decide_false, Bool.false_and]
    · rename_i h; simp only [h, decide_false, Bool.false_and]
  split
  · split
    · rename_i h; simp only [h, decide_true, Bool.true_and]
    · rename_i h; simp only [h, decide_false, Bool.false_and]
  split
  · split
    · rename_i h; simp only [h, decide_true, Bool.true_and]
    · rename_i h; simp only [h, decide_false, Bool.false_and]
  · rfl
end spec_NoteOk
end Go.Aw.Pl
