import Derived.Test.YtdgpjdedpkpfhaaPna
namespace Go.Aw.Pl
open Go Go.Aw
set_option linter.unusedVariables false
set_option linter.unusedSimpArgs false
namespace spec_Notes
def pre (b : List Int) : Bool := small b
def pre3 := noPre
def fn3 := noFn
def mu3 := noMu
noncomputable def raw3 (x1 : (List Int)) (x2 : Int) (x3 : (List Note)) : Option (((List Int) × (Int × ((List Note) × Unit))) ⊕ (Int × ((List Note) × Unit))) :=
 if (decide (x2 < ((List.length x1 : Nat) : Int))) = true then
  if (spec_NoteOf.pre x1 x2) = true then
   letB (spec_NoteOf x1 x2) fun v1 =>
   if (!v1.2.2) = true then
    some (.inr (x2, (x3, ())))
   else
    if (decide (List.length x3 + List.length (v1.1 :: ([] : List Note)) ≤ lim)) = true then
     some (.inl (x1, (v1.2.1, ((List.append x3 (v1.1 :: ([] : List Note))), ()))))
    else
     none
  else
   none
 else
  some (.inr (x2, (x3, ())))
abbrev wf (x0 : (List Int)) : Prop := wfA [(.val (.sl 0 (.int .u8)) .f)] (x0, ())
noncomputable def raw (x0 : (List Int)) : Option (Unit × ((List Note) × (Int × Unit))) :=
 if (spec_Notes.pre3 (x0, ((0 : Int), (([] : List Note), ())))) = true then
  letB (spec_Notes.fn3 (x0, ((0 : Int), (([] : List Note), ())))) fun v1 =>
  some ((), (v1.2.1, (v1.1, ())))
 else
  none
theorem ok3 (x1 : List Int) (x2 : Int) (x3 : List Note) (hp : pre3 (x1, (x2, (x3, ()))) = true) : Rounds pre3 mu3 fn3 (x1, (x2, (x3, ()))) (raw3 x1 x2 x3) := by
  obtain ⟨hb, hs, h0, h1, h2⟩ := no_facts hp
  unfold raw3
  simp only [letB]
  by_cases hlt : x2 < (x1.length : Int)
  · rw [if_pos (by simp [hlt]), if_pos (show spec_NoteOf.pre _ _ = true from rfl)]
    by_cases h : (spec_NoteOf x1 x2).2.2 = true
    · rw [if_neg (by simp [h]), if_pos (by simp only [decide_eq_true_eq, lim, List.length_cons, List.length_nil]; omega)]
      exact no_go hp h
    · rw [if_pos (by simp [h])]
      exact no_no h
  · rw [if_neg (by simp [hlt])]
    have := notesW_end hb (i := x2) (by omega) x3
    simp only [Rounds, fn3, noFn, this]
theorem eq (x0 : List Int) (hw : wf x0) (hp : pre x0 = true) : raw x0 = some ((), ((spec_Notes x0).1, ((spec_Notes x0).2, ()))) := by
  have hb : isBytes x0 = true := isBytes_of hw.1.2
  unfold raw
  rw [if_pos (show pre3 _ = true from no_start hb hp)]
  rfl
end spec_Notes
namespace impl_Notes
def pre (b : List Int) : Bool := small b
def pre3 := noPre
def fn3 := noFn
def mu3 := noMu
noncomputable def raw3 (x1 : (List Int)) (x2 : Int) (x3 : (List Note)) : Option (((List Int) × (Int × ((List Note) × Unit))) ⊕ (Int × ((List Note) × Unit))) :=
 if (impl_NoteOf.pre x1 x2) = true then
  letB (impl_NoteOf x1 x2) fun v1 =>
  if (!v1.2.2) = true then
   some (.inr (x2, (x3, ())))
  else
   if (decide (List.length x3 + List.length (v1.1 :: ([] : List Note)) ≤ lim)) = true then
    some (.inl (x1, (v1.2.1, ((List.append x3 (v1.1 :: ([] : List Note))), ()))))
   else
    none
 else
  none
abbrev wf (x0 : (List Int)) : Prop := wfA [(.val (.sl 0 (.int .u8)) .f)] (x0, ())
noncomputable def raw (x0 : (List Int)) : Option (Unit × ((List Note) × (Int × Unit))) :=
 if (impl_Notes.pre3 (x0, ((0 : Int), (([] : List Note), ())))) = true then
  letB (impl_Notes.fn3 (x0, ((0 : Int), (([] : List Note), ())))) fun v1 =>
  some ((), (v1.2.1, (v1.1, ())))
 else
  none
theorem ok3 (x1 : List Int) (x2 : Int) (x3 : List Note) (hp : pre3 (x1, (x2, (x3, ()))) = true) : Rounds pre3 mu3 fn3 (x1, (x2, (x3, ()))) (raw3 x1 x2 x3) := by
  obtain ⟨hb, hs, h0, h1, h2⟩ := no_facts hp
  unfold raw3
  simp only [letB]
  rw [if_pos (show impl_NoteOf.pre _ _ = true from decide_eq_true (Int.le_refl _)), NoteOf_same x2 hb (by omega)]
  by_cases h : (spec_NoteOf x1 x2).2.2 = true
  · rw [if_neg (by simp [h]), if_pos (by simp only [decide_eq_true_eq, lim, List.length_cons, List.length_nil]; omega)]
    exact no_go hp h
  · rw [if_pos (by simp [h])]
    exact no_no h
theorem eq (x0 : List Int) (hw : wf x0) (hp : pre x0 = true) : raw x0 = some ((), ((impl_Notes x0).1, ((impl_Notes x0).2, ()))) := by
  have hb : isBytes x0 = true := isBytes_of hw.1.2
  unfold raw
  rw [if_pos (show pre3 _ = true from no_start hb hp)]
  rfl
end impl_Notes
theorem cntL_const {α : Type} {g : α → Int} {c : Int} : (xs : List α) → (∀ x ∈ xs, g x ≤ c) → cntL g xs ≤ c * xs.length
  | [], _ => by simp [cntL]
  | a :: r, h => by
    have h1 := h a (List.mem_cons_self ..)
    have h2 := cntL_const r fun x hx => h x (List.mem_cons_of_mem _ hx)
    simp only [cntL, List.length_cons]
    push_cast
    rw [Int.mul_add, Int.mul_one]
    omega
theorem cntL_Byte : (xs : List Int) → cntL cnt_Byte xs = xs.length
  | [] => rfl
  | a :: r => by simp only [cntL, cnt_Byte, cntL_Byte r, List.length_cons]; omega
theorem toByte_pre {xs : List Int} (h : xs.length ≤ 16777216) : laws_toByteS.pre xs = true := by
  refine toByteS_pre ?_
  have hz : sumW w_Byte xs = 0 := sumW_zero (fun _ => rfl) xs
  simp only [wL]; omega
def laws_FnExactNotes (_ : List Int) : Bool := true
namespace laws_FnExactNotes
abbrev wf (x0 : (List Int)) : Prop := wfA [(.val (.sl 0 (.int .u8)) .f)] (x0, ())
noncomputable def raw (x0 : (List Int)) : Option (Unit × (Bool × Unit)) :=
 if (decide ((1048576 : Int) < ((List.length x0 : Nat) : Int))) = true then
  some ((), (true, ()))
 else
  if (laws_toByteS.pre x0) = true then
   letB (laws_toByteS x0) fun v1 =>
   if (spec_Notes.pre v1) = true then
    if (laws_toByteS.pre x0) = true then
     if (impl_Notes.pre v1) = true then
      letB (Notes v1) fun v2 =>
      letB (Notes v1) fun v3 =>
      letB (laws_eqNoteS v2.1 v3.1) fun v4 =>
      if (!v4) = true then
       some ((), (false, ()))
      else
       if (!(decide (v2.2 = v3.2))) = true then
        some ((), (false, ()))
       else
        if (laws_toByteS.pre x0) = true then
         letB (laws_eqByteS v1 v1) fun v5 =>
         if (!v5) = true then
          some ((), (false, ()))
         else
          if (laws_markByteS.pre v1 (1 : Int)) = true then
           letB (laws_markByteS v1 (1 : Int)) fun v6 =>
           if (decide (v6.2 < (0 : Int))) = true then
            some ((), (false, ()))
           else
            if (!v4) = true then
             some ((), (false, ()))
            else
             if (!(decide (v2.2 = v3.2))) = true then
              some ((), (false, ()))
             else
              if (laws_markNoteS.pre v2.1 (1 : Int)) = true then
               letB (laws_markNoteS v2.1 (1 : Int)) fun v7 =>
               if (laws_heldNoteS.pre v7.1 (1 : Int)) = true then
                letB (laws_heldNoteS v7.1 (1 : Int)) fun v8 =>
                if (decide (v8 < (0 : Int))) = true then
                 some ((), (false, ()))
                else
                 if (!(decide (v8 = v7.2))) = true then
                  some ((), (false, ()))
                 else
                  if (laws_toByteS.pre x0) = true then
                   letB (laws_toByteS x0) fun v9 =>
                   if (impl_Notes.pre v9) = true then
                    letB (Notes v9) fun v10 =>
                    letB (laws_eqNoteS v10.1 v3.1) fun v11 =>
                    if (!v11) = true then
                     some ((), (false, ()))
                    else
                     if (!(decide (v10.2 = v3.2))) = true then
                      some ((), (false, ()))
                     else
                      if (laws_heldNoteS.pre v7.1 (1 : Int)) = true then
                       if (decide (v8 < (0 : Int))) = true then
                        some ((), (false, ()))
                       else
                        if (!(decide (v8 = v7.2))) = true then
                         some ((), (false, ()))
                        else
                         some ((), (true, ()))
                      else
                       none
                   else
                    none
                  else
                   none
               else
                none
              else
               none
          else
           none
        else
         none
     else
      none
    else
     none
   else
    none
  else
   none
theorem eq (x0 : List Int) (hw : wf x0) : raw x0 = some ((), (laws_FnExactNotes x0, ())) := by
  unfold raw
  simp only [letB]
  by_cases h : (1048576 : Int) < (x0.length : Int)
  · rw [if_pos (decide_eq_true h)]; rfl
  have hb : isBytes x0 = true := isBytes_of hw.1.2
  have p1 : laws_toByteS.pre x0 = true := toByte_pre (by omega)
  have e1 : laws_toByteS x0 = x0 := rfl
  have hs : small x0 = true := by rw [small_iff]; omega
  have p2 : spec_Notes.pre x0 = true := hs
  have p3 : impl_Notes.pre x0 = true := hs
  have hcb := cntL_Byte x0
  have p5 : laws_markByteS.pre x0 1 = true := markByteS_pre (by omega) (by omega)
  have n2 : ¬ 1 + cntL cnt_Byte x0 < 0 := by omega
  obtain ⟨hl, ha⟩ := notesW_inv hb x0.length 0 [] (by simp) (by omega) (by omega) (by simp) (by simp)
  have hv : (Notes x0).1 = (notesW (spec_NoteOf x0) x0.length 0 []).2 := rfl
  rw [← hv] at hl ha
  rw [if_neg (by rw [decide_eq_true_eq]; exact h)]
  simp only [p1, e1, p2, p3, p5, n2, markByteS_eq, if_true]
  generalize Notes x0 = v at *
  have hc : cntL cnt_Note v.1 ≤ 365 * v.1.length := cntL_const _ fun r hr => by
    have := ha r hr
    simp only [cnt_Note, cntL_Entry]; omega
  have hc0 := cntL_nn mk_Note_ok v.1
  have p6 : laws_markNoteS.pre v.1 1 = true := markNoteS_pre (by omega) (by omega)
  have p7 : laws_heldNoteS.pre (mkL mk_Note cnt_Note v.1 1) 1 = true := heldNoteS_pre (by omega) (by rw [cntL_mkL mk_Note_ok]; omega)
  have e3 : laws_heldNoteS (mkL mk_Note cnt_Note v.1 1) 1 = 1 + cntL cnt_Note v.1 := by
    rw [heldNoteS_pos (mkL_mkL mk_Note_ok _ _).symm, cntL_mkL mk_Note_ok]
  have n1 : ¬ 1 + cntL cnt_Note v.1 < 0 := by omega
  simp only [p6, p7, e3, n1, markNoteS_eq, laws_eqByteS, laws_eqNoteS, same_self, decide_true, decide_false, Bool.not_true, Bool.not_false, Bool.false_eq_true, if_true, if_false]
  rfl
end laws_FnExactNotes
end Go.Aw.Pl
