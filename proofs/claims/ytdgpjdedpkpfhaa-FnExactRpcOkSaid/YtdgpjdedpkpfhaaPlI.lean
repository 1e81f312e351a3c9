/-
  Notes and messages: the program's own tests of what is right; the laws.
-/
import Derived.Test.YtdgpjdedpkpfhaaPlH
namespace Go.Aw.Pl
open Go Go.Aw

namespace impl_NoteOk
abbrev wf (x0 : Note) : Prop := wfA [(.val (.pair (.int .i64) (.pair (.int .i64) (.pair (.int .i64) (.pair (.int .i64) (.pair (.sl 0 (.pair (.int .i64) (.pair (.pair (.int .i64) (.pair (.int .i64) (.pair (.int .i64) (.pair (.int .i64) (.pair (.int .i64) (.pair (.int .i64) (.pair .str (.pair .str .unit)))))))) .unit))) (.pair .str .unit)))))) .f)] (x0, ())
noncomputable def raw (x0 : Note) : Option (Unit × (Bool × Unit)) :=
 if (!(impl_within x0.2.1 (0 : Int) (300 : Int))) = true then
  some ((), (false, ()))
 else
  if (!(impl_within x0.2.2.2.1 (0 : Int) (300 : Int))) = true then
   some ((), (false, ()))
  else
   if (decide ((40 : Int) < ((List.length x0.2.2.2.2.1 : Nat) : Int))) = true then
    some ((), (false, ()))
   else
    if (decide ((30000 : Int) < ((List.length x0.2.2.2.2.2.1 : Nat) : Int))) = true then
     some ((), (false, ()))
    else
     if (slices_ContainsFunc_Entry.pre x0.2.2.2.2.1 ((fun x => true), (fun x => (impl_NoteOk_1 x)))) = true then
      if (slices_ContainsFunc_Entry x0.2.2.2.2.1 ((fun x => true), (fun x => (impl_NoteOk_1 x)))) = true then
       some ((), (false, ()))
      else
       if (decide (x0.1 = (1 : Int))) = true then
        if (impl_within x0.2.2.1 (-1 : Int) (4 : Int)) = true then
         if (decide (x0.2.2.2.1 = (0 : Int))) = true then
          if (decide (((List.length x0.2.2.2.2.1 : Nat) : Int) = (0 : Int))) = true then
           some ((), ((x0.2.2.2.2.2.1 == ([] : List UInt8)), ()))
          else
           some ((), (false, ()))
         else
          some ((), (false, ()))
        else
         some ((), (false, ()))
       else
        if (decide (x0.1 = (2 : Int))) = true then
         if (decide (x0.2.2.1 = (0 : Int))) = true then
          some ((), ((x0.2.2.2.2.2.1 == ([] : List UInt8)), ()))
         else
          some ((), (false, ()))
        else
         if (decide (x0.1 = (3 : Int))) = true then
          if (decide (x0.2.2.1 = (0 : Int))) = true then
           some ((), ((decide (((List.length x0.2.2.2.2.1 : Nat) : Int) = (0 : Int))), ()))
          else
           some ((), (false, ()))
         else
          some ((), (false, ()))
     else
      none
theorem eq (x0 : Note) (_ : wf x0) : raw x0 = some ((), (impl_NoteOk x0, ())) := by
  unfold raw impl_NoteOk NoteOk kindOk spec_l9List
  cases impl_within x0.2.1 0 300
  · simp
  cases impl_within x0.2.2.2.1 0 300
  · simp
  by_cases hl : (x0.2.2.2.2.1.length : Int) ≤ 40
  case neg =>
    have hl' : (40 : Int) < (x0.2.2.2.2.1.length : Int) := by omega
    have hl2 : ¬ x0.2.2.2.2.1.length ≤ 40 := by omega
    simp [hl', hl2]
  have hl' : ¬ (40 : Int) < (x0.2.2.2.2.1.length : Int) := by omega
  have hl2 : x0.2.2.2.2.1.length ≤ 40 := by omega
  by_cases hs : (x0.2.2.2.2.2.1.length : Int) ≤ 30000
  case neg =>
    have hs' : (30000 : Int) < (x0.2.2.2.2.2.1.length : Int) := by omega
    simp [hs, hs', hl']
  have hs' : ¬ (30000 : Int) < (x0.2.2.2.2.2.1.length : Int) := by omega
  have hpre : slices_ContainsFunc_Entry.pre x0.2.2.2.2.1 ((fun _ => true), (fun x => impl_NoteOk_1 x)) = true := by simp [slices_ContainsFunc_Entry.pre]
  have hany : slices_ContainsFunc_Entry x0.2.2.2.2.1 ((fun _ => true), (fun x => impl_NoteOk_1 x)) = !x0.2.2.2.2.1.all (eOk 300) := any_not (eOk 300) _
  simp only [hl', hs', hs, hl2, hpre, hany, decide_true, decide_false, Bool.not_true, Bool.false_eq_true, if_false, if_true, Bool.true_and, Bool.and_true, decide_eq_true_eq]
  cases x0.2.2.2.2.1.all (eOk 300)
  · simp
  simp only [Bool.not_true, Bool.false_eq_true, if_false, Bool.true_and]
  split
  · cases impl_within x0.2.2.1 (-1) 4 <;> simp only [Bool.false_eq_true, if_false, if_true, Bool.false_and, Bool.true_and]
    split
    · rename_i h; simp only [h, decide_true, Bool.true_and]
      split
      · rename_i h; simp only [h, decide_true, Bool.true_and]
      · rename_i h; simp only [h, decide_false, Bool.false_and]
    · rename_i h; simp only [h, decide_false, Bool.false_and]
  split
  · split
    · rename_i h; simp only [h, decide_true, Bool.true_and]
    · rename_i h; simp only [h, decide_false, Bool.false_and]
  split
  · split
    · rename_i h; simp only [h, decide_true, Bool.true_and]
    · rename_i h; simp only [h, decide_false, Bool.false_and]
  · rfl
end impl_NoteOk

abbrev Rpc := (Int × (Int × (Int × (Int × (Int × (Int × (Int × ((List Entry) × (Bool × ((List UInt8) × Unit))))))))))

def impl_RpcOk_1 (e : Entry) (r : Rpc) : Bool := !eOk r.2.2.2.1 e
namespace impl_RpcOk_1
abbrev wf (x0 : Entry) (x1 : (Int × (Int × (Int × (Int × (Int × (Int × (Int × ((List Entry) × (Bool × ((List UInt8) × Unit))))))))))) : Prop := wfA [(.val (.pair (.int .i64) (.pair (.pair (.int .i64) (.pair (.int .i64) (.pair (.int .i64) (.pair (.int .i64) (.pair (.int .i64) (.pair (.int .i64) (.pair .str (.pair .str .unit)))))))) .unit)) .f), (.peek (.pair (.int .i64) (.pair (.int .i64) (.pair (.int .i64) (.pair (.int .i64) (.pair (.int .i64) (.pair (.int .i64) (.pair (.int .i64) (.pair (.sl 0 (.pair (.int .i64) (.pair (.pair (.int .i64) (.pair (.int .i64) (.pair (.int .i64) (.pair (.int .i64) (.pair (.int .i64) (.pair (.int .i64) (.pair .str (.pair .str .unit)))))))) .unit))) (.pair .bool (.pair .str .unit)))))))))))] (x0, (x1, ()))
noncomputable def raw (x0 : Entry) (x1 : (Int × (Int × (Int × (Int × (Int × (Int × (Int × ((List Entry) × (Bool × ((List UInt8) × Unit))))))))))) : Option (Unit × (Bool × Unit)) :=
 if (!(impl_within x0.1 (0 : Int) x1.2.2.2.1)) = true then
  some ((), (true, ()))
 else
  some ((), ((!(CmdOk x0.2.1)), ()))
theorem eq (x0 : Entry) (x1 : Rpc) (_ : wf x0 x1) : raw x0 x1 = some ((), (impl_RpcOk_1 x0 x1, ())) := by
  unfold raw impl_RpcOk_1 eOk
  cases impl_within x0.1 0 x1.2.2.2.1 <;> simp
end impl_RpcOk_1

/-- What both ask, one behind the other. -/
def RpcOk (r : Rpc) (size : Int) : Bool :=
  impl_within r.1 1 5 && (impl_within size 1 5 && (impl_within r.2.1 0 (size - 1) && (impl_within r.2.2.1 0 (size - 1) && (!decide (r.2.1 = r.2.2.1) && (impl_within r.2.2.2.1 0 300 && (impl_within r.2.2.2.2.1 0 300 && (impl_within r.2.2.2.2.2.1 0 300 && (impl_within r.2.2.2.2.2.2.1 0 300 && (spec_l9List r.2.2.2.2.2.2.2.1 r.2.2.2.1 && decide ((r.2.2.2.2.2.2.2.2.2.1.length : Int) ≤ 30000))))))))))
abbrev impl_RpcOk := RpcOk
abbrev spec_RpcOk := RpcOk
theorem within_hi {n lo hi : Int} (h : impl_within n lo hi = true) : lo ≤ n ∧ n ≤ hi := by
  simpa [impl_within] using h
namespace spec_RpcOk
abbrev wf (x0 : (Int × (Int × (Int × (Int × (Int × (Int × (Int × ((List Entry) × (Bool × ((List UInt8) × Unit))))))))))) (x1 : Int) : Prop := wfA [(.val (.pair (.int .i64) (.pair (.int .i64) (.pair (.int .i64) (.pair (.int .i64) (.pair (.int .i64) (.pair (.int .i64) (.pair (.int .i64) (.pair (.sl 0 (.pair (.int .i64) (.pair (.pair (.int .i64) (.pair (.int .i64) (.pair (.int .i64) (.pair (.int .i64) (.pair (.int .i64) (.pair (.int .i64) (.pair .str (.pair .str .unit)))))))) .unit))) (.pair .bool (.pair .str .unit)))))))))) .f), (.val (.int .i64) .f)] (x0, (x1, ()))
noncomputable def raw (x0 : (Int × (Int × (Int × (Int × (Int × (Int × (Int × ((List Entry) × (Bool × ((List UInt8) × Unit))))))))))) (x1 : Int) : Option (Unit × (Bool × Unit)) :=
 if (!(impl_within x0.1 (1 : Int) (5 : Int))) = true then
  some ((), (false, ()))
 else
  if (!(impl_within x1 (1 : Int) (5 : Int))) = true then
   some ((), (false, ()))
  else
   if (!(impl_within x0.2.1 (0 : Int) (IntKind.wrap .i64 (x1 - (1 : Int))))) = true then
    some ((), (false, ()))
   else
    if (!(impl_within x0.2.2.1 (0 : Int) (IntKind.wrap .i64 (x1 - (1 : Int))))) = true then
     some ((), (false, ()))
    else
     if (decide (x0.2.1 = x0.2.2.1)) = true then
      some ((), (false, ()))
     else
      if (impl_within x0.2.2.2.1 (0 : Int) (300 : Int)) = true then
       if (impl_within x0.2.2.2.2.1 (0 : Int) (300 : Int)) = true then
        if (impl_within x0.2.2.2.2.2.1 (0 : Int) (300 : Int)) = true then
         if (impl_within x0.2.2.2.2.2.2.1 (0 : Int) (300 : Int)) = true then
          if (spec_l9List x0.2.2.2.2.2.2.2.1 x0.2.2.2.1) = true then
           some ((), ((decide (((List.length x0.2.2.2.2.2.2.2.2.2.1 : Nat) : Int) ≤ (30000 : Int))), ()))
          else
           some ((), (false, ()))
         else
          some ((), (false, ()))
        else
         some ((), (false, ()))
       else
        some ((), (false, ()))
      else
       some ((), (false, ()))
theorem eq (x0 : Rpc) (x1 : Int) (_ : wf x0 x1) : raw x0 x1 = some ((), (spec_RpcOk x0 x1, ())) := by
  unfold raw spec_RpcOk RpcOk
  cases impl_within x0.1 1 5
  · simp
  cases hs : impl_within x1 1 5
  · simp
  have h := within_hi hs
  rw [w64 (n := x1 - 1) (by omega) (by omega)]
  cases impl_within x0.2.1 0 (x1 - 1)
  · simp
  cases impl_within x0.2.2.1 0 (x1 - 1)
  · simp
  by_cases he : x0.2.1 = x0.2.2.1
  · simp [he]
  simp only [he, decide_false, Bool.not_true, Bool.not_false, Bool.false_eq_true, if_false, Bool.true_and]
  cases impl_within x0.2.2.2.1 0 300 <;> simp only [Bool.false_eq_true, if_false, if_true, Bool.false_and, Bool.true_and]
  cases impl_within x0.2.2.2.2.1 0 300 <;> simp only [Bool.false_eq_true, if_false, if_true, Bool.false_and, Bool.true_and]
  cases impl_within x0.2.2.2.2.2.1 0 300 <;> simp only [Bool.false_eq_true, if_false, if_true, Bool.false_and, Bool.true_and]
  cases impl_within x0.2.2.2.2.2.2.1 0 300 <;> simp only [Bool.false_eq_true, if_false, if_true, Bool.false_and, Bool.true_and]
  cases spec_l9List x0.2.2.2.2.2.2.2.1 x0.2.2.2.1 <;> simp only [Bool.false_eq_true, if_false, if_true, Bool.false_and, Bool.true_and]
end spec_RpcOk
namespace impl_RpcOk
abbrev wf (x0 : (Int × (Int × (Int × (Int × (Int × (Int × (Int × ((List Entry) × (Bool × ((List UInt8) × Unit))))))))))) (x1 : Int) : Prop := wfA [(.val (.pair (.int .i64) (.pair (.int .i64) (.pair (.int .i64) (.pair (.int .i64) (.pair (.int .i64) (.pair (.int .i64) (.pair (.int .i64) (.pair (.sl 0 (.pair (.int .i64) (.pair (.pair (.int .i64) (.pair (.int .i64) (.pair (.int .i64) (.pair (.int .i64) (.pair (.int .i64) (.pair (.int .i64) (.pair .str (.pair .str .unit)))))))) .unit))) (.pair .bool (.pair .str .unit)))))))))) .f), (.val (.int .i64) .f)] (x0, (x1, ()))
noncomputable def raw (x0 : (Int × (Int × (Int × (Int × (Int × (Int × (Int × ((List Entry) × (Bool × ((List UInt8) × Unit))))))))))) (x1 : Int) : Option (Unit × (Bool × Unit)) :=
 if (!(impl_within x1 (1 : Int) (5 : Int))) = true then
  some ((), (false, ()))
 else
  if (!(impl_within x0.1 (1 : Int) (5 : Int))) = true then
   some ((), (false, ()))
  else
   if (!(impl_within x0.2.1 (0 : Int) (IntKind.wrap .i64 (x1 - (1 : Int))))) = true then
    some ((), (false, ()))
   else
    if (!(impl_within x0.2.2.1 (0 : Int) (IntKind.wrap .i64 (x1 - (1 : Int))))) = true then
     some ((), (false, ()))
    else
     if (decide (x0.2.1 = x0.2.2.1)) = true then
      some ((), (false, ()))
     else
      if (!(impl_within x0.2.2.2.1 (0 : Int) (300 : Int))) = true then
       some ((), (false, ()))
      else
       if (!(impl_within x0.2.2.2.2.1 (0 : Int) (300 : Int))) = true then
        some ((), (false, ()))
       else
        if (!(impl_within x0.2.2.2.2.2.1 (0 : Int) (300 : Int))) = true then
         some ((), (false, ()))
        else
         if (!(impl_within x0.2.2.2.2.2.2.1 (0 : Int) (300 : Int))) = true then
          some ((), (false, ()))
         else
          if (decide ((40 : Int) < ((List.length x0.2.2.2.2.2.2.2.1 : Nat) : Int))) = true then
           some ((), (false, ()))
          else
           if (decide ((30000 : Int) < ((List.length x0.2.2.2.2.2.2.2.2.2.1 : Nat) : Int))) = true then
            some ((), (false, ()))
           else
            if (slices_ContainsFunc_Entry.pre x0.2.2.2.2.2.2.2.1 ((fun x => true), (fun x => (impl_RpcOk_1 x x0)))) = true then
             some ((), ((!(slices_ContainsFunc_Entry x0.2.2.2.2.2.2.2.1 ((fun x => true), (fun x => (impl_RpcOk_1 x x0))))), ()))
            else
             none
theorem eq (x0 : Rpc) (x1 : Int) (_ : wf x0 x1) : raw x0 x1 = some ((), (impl_RpcOk x0 x1, ())) := by
  unfold raw impl_RpcOk RpcOk spec_l9List
  cases hs : impl_within x1 1 5
  · simp
  have h := within_hi hs
  rw [w64 (n := x1 - 1) (by omega) (by omega)]
  cases impl_within x0.1 1 5
  · simp
  cases impl_within x0.2.1 0 (x1 - 1)
  · simp
  cases impl_within x0.2.2.1 0 (x1 - 1)
  · simp
  by_cases he : x0.2.1 = x0.2.2.1
  · simp [he]
  simp only [he, decide_false, Bool.not_true, Bool.not_false, Bool.false_eq_true, if_false, Bool.true_and]
  cases impl_within x0.2.2.2.1 0 300
  · simp
  cases impl_within x0.2.2.2.2.1 0 300
  · simp
  cases impl_within x0.2.2.2.2.2.1 0 300
  · simp
  cases impl_within x0.2.2.2.2.2.2.1 0 300
  · simp
  by_cases hl : (x0.2.2.2.2.2.2.2.1.length : Int) ≤ 40
  case neg =>
    have hl' : (40 : Int) < (x0.2.2.2.2.2.2.2.1.length : Int) := by omega
    have hl2 : ¬ x0.2.2.2.2.2.2.2.1.length ≤ 40 := by omega
    simp [hl', hl2]
  have hl' : ¬ (40 : Int) < (x0.2.2.2.2.2.2.2.1.length : Int) := by omega
  have hl2 : x0.2.2.2.2.2.2.2.1.length ≤ 40 := by omega
  by_cases hs : (x0.2.2.2.2.2.2.2.2.2.1.length : Int) ≤ 30000
  case neg =>
    have hs' : (30000 : Int) < (x0.2.2.2.2.2.2.2.2.2.1.length : Int) := by omega
    simp [hs, hs', hl']
  have hs' : ¬ (30000 : Int) < (x0.2.2.2.2.2.2.2.2.2.1.length : Int) := by omega
  have hpre : slices_ContainsFunc_Entry.pre x0.2.2.2.2.2.2.2.1 ((fun _ => true), (fun x => impl_RpcOk_1 x x0)) = true := by simp [slices_ContainsFunc_Entry.pre]
  have hany : slices_ContainsFunc_Entry x0.2.2.2.2.2.2.2.1 ((fun _ => true), (fun x => impl_RpcOk_1 x x0)) = !x0.2.2.2.2.2.2.2.1.all (eOk x0.2.2.2.1) := any_not (eOk x0.2.2.2.1) _
  simp only [hl', hs', hs, hl2, hpre, hany, decide_true, decide_false, Bool.not_true, Bool.not_not, Bool.false_eq_true, if_false, if_true, Bool.true_and, Bool.and_true]
end impl_RpcOk

def laws_szNote (r : Note) (l : Int) : Int :=
  if laws_szEntryS r.2.2.2.2.1 l < 0 then -1 else if IntKind.wrap .i64 (laws_szEntryS r.2.2.2.2.1 l - (r.2.2.2.2.2.1.length : Int)) < 0 then -1 else IntKind.wrap .i64 (laws_szEntryS r.2.2.2.2.1 l - (r.2.2.2.2.2.1.length : Int))
namespace laws_szNote
abbrev wf (x0 : Note) (x1 : Int) : Prop := wfA [(.val (.pair (.int .i64) (.pair (.int .i64) (.pair (.int .i64) (.pair (.int .i64) (.pair (.sl 0 (.pair (.int .i64) (.pair (.pair (.int .i64) (.pair (.int .i64) (.pair (.int .i64) (.pair (.int .i64) (.pair (.int .i64) (.pair (.int .i64) (.pair .str (.pair .str .unit)))))))) .unit))) (.pair .str .unit)))))) .f), (.val (.int .i64) .f)] (x0, (x1, ()))
noncomputable def raw (x0 : Note) (x1 : Int) : Option (Unit × (Int × Unit)) :=
 if (decide ((laws_szEntryS x0.2.2.2.2.1 x1) < (0 : Int))) = true then
  some ((), ((-1 : Int), ()))
 else
  if (decide ((IntKind.wrap .i64 ((laws_szEntryS x0.2.2.2.2.1 x1) - ((List.length x0.2.2.2.2.2.1 : Nat) : Int))) < (0 : Int))) = true then
   some ((), ((-1 : Int), ()))
  else
   some ((), ((IntKind.wrap .i64 ((laws_szEntryS x0.2.2.2.2.1 x1) - ((List.length x0.2.2.2.2.2.1 : Nat) : Int))), ()))
theorem eq (x0 : Note) (x1 : Int) (_ : wf x0 x1) : raw x0 x1 = some ((), (laws_szNote x0 x1, ())) := by
  unfold raw laws_szNote
  simp only [decide_eq_true_eq]
  split
  · rfl
  · split <;> rfl
end laws_szNote
theorem szNote_small {x : Note} (hl : x.2.2.2.2.1.length ≤ maxLen) (h : ¬ laws_szNote x 1048576 < 0) : small x.2.2.2.2.1 = true := by
  have := szEntryS_small hl (by omega) (by omega) (fun h2 => h (by unfold laws_szNote; rw [if_pos h2]; omega) : ¬ laws_szEntryS x.2.2.2.2.1 1048576 < 0)
  rw [small_iff]; omega
def laws_toNote (r : Note) : Note := r
namespace laws_toNote
def pre (x : Note) : Bool := small x.2.2.2.2.1
abbrev wf (x0 : Note) : Prop := wfA [(.val (.pair (.int .i64) (.pair (.int .i64) (.pair (.int .i64) (.pair (.int .i64) (.pair (.sl 0 (.pair (.int .i64) (.pair (.pair (.int .i64) (.pair (.int .i64) (.pair (.int .i64) (.pair (.int .i64) (.pair (.int .i64) (.pair (.int .i64) (.pair .str (.pair .str .unit)))))))) .unit))) (.pair .str .unit)))))) .f)] (x0, ())
noncomputable def raw (x0 : Note) : Option (Unit × (Note × Unit)) :=
 if (laws_toEntryS.pre x0.2.2.2.2.1) = true then
  some ((), ((x0.1, (x0.2.1, (x0.2.2.1, (x0.2.2.2.1, ((laws_toEntryS x0.2.2.2.2.1), x0.2.2.2.2.2))))), ()))
 else
  none
theorem eq (x0 : Note) (_ : wf x0) (hp : pre x0 = true) : raw x0 = some ((), (laws_toNote x0, ())) := by
  unfold raw
  rw [if_pos (show laws_toEntryS.pre _ = true from hp)]; rfl
end laws_toNote
noncomputable def laws_eqNote (a b : Note) : Bool := same a b
namespace laws_eqNote
abbrev wf (x0 : Note) (x1 : Note) : Prop := wfA [(.val (.pair (.int .i64) (.pair (.int .i64) (.pair (.int .i64) (.pair (.int .i64) (.pair (.sl 0 (.pair (.int .i64) (.pair (.pair (.int .i64) (.pair (.int .i64) (.pair (.int .i64) (.pair (.int .i64) (.pair (.int .i64) (.pair (.int .i64) (.pair .str (.pair .str .unit)))))))) .unit))) (.pair .str .unit)))))) .f), (.val (.pair (.int .i64) (.pair (.int .i64) (.pair (.int .i64) (.pair (.int .i64) (.pair (.sl 0 (.pair (.int .i64) (.pair (.pair (.int .i64) (.pair (.int .i64) (.pair (.int .i64) (.pair (.int .i64) (.pair (.int .i64) (.pair (.int .i64) (.pair .str (.pair .str .unit)))))))) .unit))) (.pair .str .unit)))))) .f)] (x0, (x1, ()))
noncomputable def raw (x0 : Note) (x1 : Note) : Option (Unit × (Bool × Unit)) :=
 if (!(decide (x0.1 = x1.1))) = true then
  some ((), (false, ()))
 else
  if (!(decide (x0.2.1 = x1.2.1))) = true then
   some ((), (false, ()))
  else
   if (!(decide (x0.2.2.1 = x1.2.2.1))) = true then
    some ((), (false, ()))
   else
    if (!(decide (x0.2.2.2.1 = x1.2.2.2.1))) = true then
     some ((), (false, ()))
    else
     if (!(laws_eqEntryS x0.2.2.2.2.1 x1.2.2.2.2.1)) = true then
      some ((), (false, ()))
     else
      if (!(x0.2.2.2.2.2.1 == x1.2.2.2.2.2.1)) = true then
       some ((), (false, ()))
      else
       some ((), (true, ()))
theorem eq (x0 x1 : Note) (_ : wf x0 x1) : raw x0 x1 = some ((), (laws_eqNote x0 x1, ())) := by
  obtain ⟨a1, a2, a3, a4, a5, a6, _⟩ := x0
  obtain ⟨b1, b2, b3, b4, b5, b6, _⟩ := x1
  unfold raw laws_eqNote laws_eqEntryS
  simp only [Bool.not_eq_true', decide_eq_false_iff_not, beq_eq_false_iff_ne, ne_eq]
  by_cases h1 : a1 = b1
  case neg => rw [if_pos h1, same_false.2 (by simp [h1])]
  rw [if_neg (by simp [h1])]
  by_cases h2 : a2 = b2
  case neg => rw [if_pos h2, same_false.2 (by simp [h2])]
  rw [if_neg (by simp [h2])]
  by_cases h3 : a3 = b3
  case neg => rw [if_pos h3, same_false.2 (by simp [h3])]
  rw [if_neg (by simp [h3])]
  by_cases h4 : a4 = b4
  case neg => rw [if_pos h4, same_false.2 (by simp [h4])]
  rw [if_neg (by simp [h4])]
  by_cases h5 : a5 = b5
  case neg => rw [if_pos (by simp [same_false.2 h5]), same_false.2 (by simp [h5])]
  rw [if_neg (by simp [same_true.2 h5])]
  by_cases h6 : a6 = b6
  case neg => rw [if_pos h6, same_false.2 (by simp [h6])]
  rw [if_neg (by simp [h6])]
  rw [same_true.2 (by simp [h1, h2, h3, h4, h5, h6])]
end laws_eqNote

def laws_szRpc (r : Rpc) (l : Int) : Int :=
  if laws_szEntryS r.2.2.2.2.2.2.2.1 l < 0 then -1 else if IntKind.wrap .i64 (laws_szEntryS r.2.2.2.2.2.2.2.1 l - (r.2.2.2.2.2.2.2.2.2.1.length : Int)) < 0 then -1 else IntKind.wrap .i64 (laws_szEntryS r.2.2.2.2.2.2.2.1 l - (r.2.2.2.2.2.2.2.2.2.1.length : Int))
namespace laws_szRpc
abbrev wf (x0 : (Int × (Int × (Int × (Int × (Int × (Int × (Int × ((List Entry) × (Bool × ((List UInt8) × Unit))))))))))) (x1 : Int) : Prop := wfA [(.val (.pair (.int .i64) (.pair (.int .i64) (.pair (.int .i64) (.pair (.int .i64) (.pair (.int .i64) (.pair (.int .i64) (.pair (.int .i64) (.pair (.sl 0 (.pair (.int .i64) (.pair (.pair (.int .i64) (.pair (.int .i64) (.pair (.int .i64) (.pair (.int .i64) (.pair (.int .i64) (.pair (.int .i64) (.pair .str (.pair .str .unit)))))))) .unit))) (.pair .bool (.pair .str .unit)))))))))) .f), (.val (.int .i64) .f)] (x0, (x1, ()))
noncomputable def raw (x0 : (Int × (Int × (Int × (Int × (Int × (Int × (Int × ((List Entry) × (Bool × ((List UInt8) × Unit))))))))))) (x1 : Int) : Option (Unit × (Int × Unit)) :=
 if (decide ((laws_szEntryS x0.2.2.2.2.2.2.2.1 x1) < (0 : Int))) = true then
  some ((), ((-1 : Int), ()))
 else
  if (decide ((IntKind.wrap .i64 ((laws_szEntryS x0.2.2.2.2.2.2.2.1 x1) - ((List.length x0.2.2.2.2.2.2.2.2.2.1 : Nat) : Int))) < (0 : Int))) = true then
   some ((), ((-1 : Int), ()))
  else
   some ((), ((IntKind.wrap .i64 ((laws_szEntryS x0.2.2.2.2.2.2.2.1 x1) - ((List.length x0.2.2.2.2.2.2.2.2.2.1 : Nat) : Int))), ()))
theorem eq (x0 : Rpc) (x1 : Int) (_ : wf x0 x1) : raw x0 x1 = some ((), (laws_szRpc x0 x1, ())) := by
  unfold raw laws_szRpc
  simp only [decide_eq_true_eq]
  split
  · rfl
  · split <;> rfl
end laws_szRpc
theorem szRpc_small {x : Rpc} (hl : x.2.2.2.2.2.2.2.1.length ≤ maxLen) (h : ¬ laws_szRpc x 1048576 < 0) : small x.2.2.2.2.2.2.2.1 = true := by
  have := szEntryS_small hl (by omega) (by omega) (fun h2 => h (by unfold laws_szRpc; rw [if_pos h2]; omega) : ¬ laws_szEntryS x.2.2.2.2.2.2.2.1 1048576 < 0)
  rw [small_iff]; omega
def laws_toRpc (r : Rpc) : Rpc := r
namespace laws_toRpc
def pre (x : Rpc) : Bool := small x.2.2.2.2.2.2.2.1
abbrev wf (x0 : (Int × (Int × (Int × (Int × (Int × (Int × (Int × ((List Entry) × (Bool × ((List UInt8) × Unit))))))))))) : Prop := wfA [(.val (.pair (.int .i64) (.pair (.int .i64) (.pair (.int .i64) (.pair (.int .i64) (.pair (.int .i64) (.pair (.int .i64) (.pair (.int .i64) (.pair (.sl 0 (.pair (.int .i64) (.pair (.pair (.int .i64) (.pair (.int .i64) (.pair (.int .i64) (.pair (.int .i64) (.pair (.int .i64) (.pair (.int .i64) (.pair .str (.pair .str .unit)))))))) .unit))) (.pair .bool (.pair .str .unit)))))))))) .f)] (x0, ())
noncomputable def raw (x0 : (Int × (Int × (Int × (Int × (Int × (Int × (Int × ((List Entry) × (Bool × ((List UInt8) × Unit))))))))))) : Option (Unit × ((Int × (Int × (Int × (Int × (Int × (Int × (Int × ((List Entry) × (Bool × ((List UInt8) × Unit)))))))))) × Unit)) :=
 if (laws_toEntryS.pre x0.2.2.2.2.2.2.2.1) = true then
  some ((), ((x0.1, (x0.2.1, (x0.2.2.1, (x0.2.2.2.1, (x0.2.2.2.2.1, (x0.2.2.2.2.2.1, (x0.2.2.2.2.2.2.1, ((laws_toEntryS x0.2.2.2.2.2.2.2.1), x0.2.2.2.2.2.2.2.2)))))))), ()))
 else
  none
theorem eq (x0 : Rpc) (_ : wf x0) (hp : pre x0 = true) : raw x0 = some ((), (laws_toRpc x0, ())) := by
  unfold raw
  rw [if_pos (show laws_toEntryS.pre _ = true from hp)]; rfl
end laws_toRpc
noncomputable def laws_eqRpc (a b : Rpc) : Bool := same a b
namespace laws_eqRpc
abbrev wf (x0 : (Int × (Int × (Int × (Int × (Int × (Int × (Int × ((List Entry) × (Bool × ((List UInt8) × Unit))))))))))) (x1 : (Int × (Int × (Int × (Int × (Int × (Int × (Int × ((List Entry) × (Bool × ((List UInt8) × Unit))))))))))) : Prop := wfA [(.val (.pair (.int .i64) (.pair (.int .i64) (.pair (.int .i64) (.pair (.int .i64) (.pair (.int .i64) (.pair (.int .i64) (.pair (.int .i64) (.pair (.sl 0 (.pair (.int .i64) (.pair (.pair (.int .i64) (.pair (.int .i64) (.pair (.int .i64) (.pair (.int .i64) (.pair (.int .i64) (.pair (.int .i64) (.pair .str (.pair .str .unit)))))))) .unit))) (.pair .bool (.pair .str .unit)))))))))) .f), (.val (.pair (.int .i64) (.pair (.int .i64) (.pair (.int .i64) (.pair (.int .i64) (.pair (.int .i64) (.pair (.int .i64) (.pair (.int .i64) (.pair (.sl 0 (.pair (.int .i64) (.pair (.pair (.int .i64) (.pair (.int .i64) (.pair (.int .i64) (.pair (.int .i64) (.pair (.int .i64) (.pair (.int .i64) (.pair .str (.pair .str .unit)))))))) .unit))) (.pair .bool (.pair .str .unit)))))))))) .f)] (x0, (x1, ()))
noncomputable def raw (x0 : (Int × (Int × (Int × (Int × (Int × (Int × (Int × ((List Entry) × (Bool × ((List UInt8) × Unit))))))))))) (x1 : (Int × (Int × (Int × (Int × (Int × (Int × (Int × ((List Entry) × (Bool × ((List UInt8) × Unit))))))))))) : Option (Unit × (Bool × Unit)) :=
 if (!(decide (x0.1 = x1.1))) = true then
  some ((), (false, ()))
 else
  if (!(decide (x0.2.1 = x1.2.1))) = true then
   some ((), (false, ()))
  else
   if (!(decide (x0.2.2.1 = x1.2.2.1))) = true then
    some ((), (false, ()))
   else
    if (!(decide (x0.2.2.2.1 = x1.2.2.2.1))) = true then
     some ((), (false, ()))
    else
     if (!(decide (x0.2.2.2.2.1 = x1.2.2.2.2.1))) = true then
      some ((), (false, ()))
     else
      if (!(decide (x0.2.2.2.2.2.1 = x1.2.2.2.2.2.1))) = true then
       some ((), (false, ()))
      else
       if (!(decide (x0.2.2.2.2.2.2.1 = x1.2.2.2.2.2.2.1))) = true then
        some ((), (false, ()))
       else
        if (!(laws_eqEntryS x0.2.2.2.2.2.2.2.1 x1.2.2.2.2.2.2.2.1)) = true then
         some ((), (false, ()))
        else
         if (!(x0.2.2.2.2.2.2.2.2.1 == x1.2.2.2.2.2.2.2.2.1)) = true then
          some ((), (false, ()))
         else
          if (!(x0.2.2.2.2.2.2.2.2.2.1 == x1.2.2.2.2.2.2.2.2.2.1)) = true then
           some ((), (false, ()))
          else
           some ((), (true, ()))
theorem eq (x0 x1 : Rpc) (_ : wf x0 x1) : raw x0 x1 = some ((), (laws_eqRpc x0 x1, ())) := by
  obtain ⟨a1, a2, a3, a4, a5, a6, a7, a8, a9, a10, _⟩ := x0
  obtain ⟨b1, b2, b3, b4, b5, b6, b7, b8, b9, b10, _⟩ := x1
  unfold raw laws_eqRpc laws_eqEntryS
  simp only [Bool.not_eq_true', decide_eq_false_iff_not, beq_eq_false_iff_ne, ne_eq]
  by_cases h1 : a1 = b1
  case neg => rw [if_pos h1, same_false.2 (by simp [h1])]
  rw [if_neg (by simp [h1])]
  by_cases h2 : a2 = b2
  case neg => rw [if_pos h2, same_false.2 (by simp [h2])]
  rw [if_neg (by simp [h2])]
  by_cases h3 : a3 = b3
  case neg => rw [if_pos h3, same_false.2 (by simp [h3])]
  rw [if_neg (by simp [h3])]
  by_cases h4 : a4 = b4
  case neg => rw [if_pos h4, same_false.2 (by simp [h4])]
  rw [if_neg (by simp [h4])]
  by_cases h5 : a5 = b5
  case neg => rw [if_pos h5, same_false.2 (by simp [h5])]
  rw [if_neg (by simp [h5])]
  by_cases h6 : a6 = b6
  case neg => rw [if_pos h6, same_false.2 (by simp [h6])]
  rw [if_neg (by simp [h6])]
  by_cases h7 : a7 = b7
  case neg => rw [if_pos h7, same_false.2 (by simp [h7])]
  rw [if_neg (by simp [h7])]
  by_cases h8 : a8 = b8
  case neg => rw [if_pos (by simp [same_false.2 h8]), same_false.2 (by simp [h8])]
  rw [if_neg (by simp [same_true.2 h8])]
  by_cases h9 : a9 = b9
  case neg => rw [if_pos (by simp [h9]), same_false.2 (by simp [h9])]
  rw [if_neg (by simp [h9])]
  by_cases h10 : a10 = b10
  case neg => rw [if_pos (by simp [h10]), same_false.2 (by simp [h10])]
  rw [if_neg (by simp [h10])]
  rw [same_true.2 (by simp [h1, h2, h3, h4, h5, h6, h7, h8, h9, h10])]
end laws_eqRpc

def laws_FnExactNoteOk (_ : Note) : Bool := true
namespace laws_FnExactNoteOk
abbrev wf (x0 : Note) : Prop := wfA [(.val (.pair (.int .i64) (.pair (.int .i64) (.pair (.int .i64) (.pair (.int .i64) (.pair (.sl 0 (.pair (.int .i64) (.pair (.pair (.int .i64) (.pair (.int .i64) (.pair (.int .i64) (.pair (.int .i64) (.pair (.int .i64) (.pair (.int .i64) (.pair .str (.pair .str .unit)))))))) .unit))) (.pair .str .unit)))))) .f)] (x0, ())
noncomputable def raw (x0 : Note) : Option (Unit × (Bool × Unit)) :=
 if (decide ((laws_szNote x0 (1048576 : Int)) < (0 : Int))) = true then
  some ((), (true, ()))
 else
  if (laws_toNote.pre x0) = true then
   if (laws_toNote.pre x0) = true then
    if (!((NoteOk (laws_toNote x0)) == (NoteOk (laws_toNote x0)))) = true then
     some ((), (false, ()))
    else
     if (laws_toNote.pre x0) = true then
      if (!(laws_eqNote (laws_toNote x0) (laws_toNote x0))) = true then
       some ((), (false, ()))
      else
       some ((), (true, ()))
     else
      none
   else
    none
  else
   none
theorem eq (x0 : Note) (hw : wf x0) : raw x0 = some ((), (laws_FnExactNoteOk x0, ())) := by
  unfold raw
  by_cases h : laws_szNote x0 1048576 < 0
  · simp [h, laws_FnExactNoteOk]
  · have hp : laws_toNote.pre x0 = true := szNote_small hw.1.2.2.2.2.1.1 h
    simp [h, hp, laws_toNote, laws_eqNote, same_self, laws_FnExactNoteOk]
end laws_FnExactNoteOk
def laws_FnExactRpcOk (_ : Rpc) (_ : Int) : Bool := true
namespace laws_FnExactRpcOk
abbrev wf (x0 : (Int × (Int × (Int × (Int × (Int × (Int × (Int × ((List Entry) × (Bool × ((List UInt8) × Unit))))))))))) (x1 : Int) : Prop := wfA [(.val (.pair (.int .i64) (.pair (.int .i64) (.pair (.int .i64) (.pair (.int .i64) (.pair (.int .i64) (.pair (.int .i64) (.pair (.int .i64) (.pair (.sl 0 (.pair (.int .i64) (.pair (.pair (.int .i64) (.pair (.int .i64) (.pair (.int .i64) (.pair (.int .i64) (.pair (.int .i64) (.pair (.int .i64) (.pair .str (.pair .str .unit)))))))) .unit))) (.pair .bool (.pair .str .unit)))))))))) .f), (.val (.int .i64) .f)] (x0, (x1, ()))
noncomputable def raw (x0 : (Int × (Int × (Int × (Int × (Int × (Int × (Int × ((List Entry) × (Bool × ((List UInt8) × Unit))))))))))) (x1 : Int) : Option (Unit × (Bool × Unit)) :=
 if (decide ((laws_szRpc x0 (1048576 : Int)) < (0 : Int))) = true then
  some ((), (true, ()))
 else
  if (laws_toRpc.pre x0) = true then
   if (laws_toRpc.pre x0) = true then
    if (!((RpcOk (laws_toRpc x0) x1) == (RpcOk (laws_toRpc x0) x1))) = true then
     some ((), (false, ()))
    else
     if (laws_toRpc.pre x0) = true then
      if (!(laws_eqRpc (laws_toRpc x0) (laws_toRpc x0))) = true then
       some ((), (false, ()))
      else
       some ((), (true, ()))
     else
      none
   else
    none
  else
   none
theorem eq (x0 : Rpc) (x1 : Int) (hw : wf x0 x1) : raw x0 x1 = some ((), (laws_FnExactRpcOk x0 x1, ())) := by
  unfold raw
  by_cases h : laws_szRpc x0 1048576 < 0
  · simp [h, laws_FnExactRpcOk]
  · have hp : laws_toRpc.pre x0 = true := szRpc_small hw.1.2.2.2.2.2.2.2.1.1 h
    simp [h, hp, laws_toRpc, laws_eqRpc, same_self, laws_FnExactRpcOk]
end laws_FnExactRpcOk
end Go.Aw.Pl
