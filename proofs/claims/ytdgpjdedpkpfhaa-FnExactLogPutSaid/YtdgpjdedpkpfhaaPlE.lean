/-
  Commands, entries, logs: the laws' helpers.
-/
import Derived.Test.YtdgpjdedpkpfhaaPlD
namespace Go.Aw.Pl
open Go Go.Aw

abbrev Mark := (Int × (Int × Unit))
abbrev Setup := (Int × (Int × Mark))
abbrev Item := (Int × ((List UInt8) × ((List UInt8) × Mark)))
abbrev Row := (Int × (Int × ((List Item) × Unit)))
abbrev Maker := (Int × (Int × (Int × (Int × ((List Mark) × Unit)))))
abbrev Answer := (Int × (Int × ((List UInt8) × ((List UInt8) × Unit))))
abbrev Cmd := (Int × (Int × (Int × (Int × Answer))))
abbrev Entry := (Int × (Cmd × Unit))
abbrev Log := (Int × (Int × ((List Entry) × Unit)))
abbrev Group := (Int × ((List Int) × ((List Int) × ((List Int) × Unit))))
abbrev Note := (Int × (Int × (Int × (Int × ((List Entry) × ((List UInt8) × Unit))))))
abbrev Keep := ((List Row) × ((List Maker) × ((List Group) × (Int × ((List Int) × ((List Answer) × Unit))))))

def laws_szCmd (c : Cmd) (l : Int) : Int :=
  if IntKind.wrap .i64 (l - (c.2.2.2.2.2.2.1.length : Int)) < 0 then -1 else
  if IntKind.wrap .i64 (IntKind.wrap .i64 (l - (c.2.2.2.2.2.2.1.length : Int)) - (c.2.2.2.2.2.2.2.1.length : Int)) < 0 then -1 else
  IntKind.wrap .i64 (IntKind.wrap .i64 (l - (c.2.2.2.2.2.2.1.length : Int)) - (c.2.2.2.2.2.2.2.1.length : Int))
namespace laws_szCmd
abbrev wf (x0 : Cmd) (x1 : Int) : Prop := wfA [(.val (.pair (.int .i64) (.pair (.int .i64) (.pair (.int .i64) (.pair (.int .i64) (.pair (.int .i64) (.pair (.int .i64) (.pair .str (.pair .str .unit)))))))) .f), (.val (.int .i64) .f)] (x0, (x1, ()))
noncomputable def raw (x0 : Cmd) (x1 : Int) : Option (Unit × (Int × Unit)) :=
 if (decide ((IntKind.wrap .i64 (x1 - ((List.length x0.2.2.2.2.2.2.1 : Nat) : Int))) < (0 : Int))) = true then
  some ((), ((-1 : Int), ()))
 else
  if (decide ((IntKind.wrap .i64 ((IntKind.wrap .i64 (x1 - ((List.length x0.2.2.2.2.2.2.1 : Nat) : Int))) - ((List.length x0.2.2.2.2.2.2.2.1 : Nat) : Int))) < (0 : Int))) = true then
   some ((), ((-1 : Int), ()))
  else
   some ((), ((IntKind.wrap .i64 ((IntKind.wrap .i64 (x1 - ((List.length x0.2.2.2.2.2.2.1 : Nat) : Int))) - ((List.length x0.2.2.2.2.2.2.2.1 : Nat) : Int))), ()))
theorem eq (x0 : Cmd) (x1 : Int) (_ : wf x0 x1) : raw x0 x1 = some ((), (laws_szCmd x0 x1, ())) := by
  unfold raw laws_szCmd
  simp only [decide_eq_true_eq]
  split
  · rfl
  · split <;> rfl
end laws_szCmd

def laws_szEntry (e : Entry) (l : Int) : Int := if laws_szCmd e.2.1 l < 0 then -1 else laws_szCmd e.2.1 l
namespace laws_szEntry
abbrev wf (x0 : Entry) (x1 : Int) : Prop := wfA [(.val (.pair (.int .i64) (.pair (.pair (.int .i64) (.pair (.int .i64) (.pair (.int .i64) (.pair (.int .i64) (.pair (.int .i64) (.pair (.int .i64) (.pair .str (.pair .str .unit)))))))) .unit)) .f), (.val (.int .i64) .f)] (x0, (x1, ()))
noncomputable def raw (x0 : Entry) (x1 : Int) : Option (Unit × (Int × Unit)) :=
 if (decide ((laws_szCmd x0.2.1 x1) < (0 : Int))) = true then
  some ((), ((-1 : Int), ()))
 else
  some ((), ((laws_szCmd x0.2.1 x1), ()))
theorem eq (x0 : Entry) (x1 : Int) (_ : wf x0 x1) : raw x0 x1 = some ((), (laws_szEntry x0 x1, ())) := by
  unfold raw laws_szEntry
  simp only [decide_eq_true_eq]
  split <;> rfl
end laws_szEntry

def laws_szEntryS (xs : List Entry) (l : Int) : Int := if IntKind.wrap .i64 (l - (xs.length : Int)) < 0 then -1 else if szL laws_szEntry xs (IntKind.wrap .i64 (l - (xs.length : Int))) < 0 then -1 else szL laws_szEntry xs (IntKind.wrap .i64 (l - (xs.length : Int)))
namespace laws_szEntryS
def pre5 := szPre (α := Entry)
def fn5 := szFn laws_szEntry
def mu5 := szMu (α := Entry)
noncomputable def raw5 (x1 : (List Entry)) (x2 : Int) (x3 : Int) : Option (((List Entry) × Mark) ⊕ ((Int × Unit) ⊕ (Int × Unit))) :=
 if (decide (x3 < ((List.length x1 : Nat) : Int))) = true then
  if (decide ((0 : Int) ≤ x3)) = true then
   if (decide (x3 < ((List.length x1 : Nat) : Int))) = true then
    if (decide ((laws_szEntry (List.getD x1 (Int.toNat x3) ((0 : Int), (((0 : Int), ((0 : Int), ((0 : Int), ((0 : Int), ((0 : Int), ((0 : Int), (([] : List UInt8), (([] : List UInt8), ())))))))), ()))) x2) < (0 : Int))) = true then
     some (.inr (.inl ((-1 : Int), ())))
    else
     some (.inl (x1, ((laws_szEntry (List.getD x1 (Int.toNat x3) ((0 : Int), (((0 : Int), ((0 : Int), ((0 : Int), ((0 : Int), ((0 : Int), ((0 : Int), (([] : List UInt8), (([] : List UInt8), ())))))))), ()))) x2), ((IntKind.wrap .i64 (x3 + (1 : Int))), ()))))
   else
    none
  else
   none
 else
  some (.inr (.inr (x2, ())))
abbrev wf (x0 : (List Entry)) (x1 : Int) : Prop := wfA [(.val (.sl 0 (.pair (.int .i64) (.pair (.pair (.int .i64) (.pair (.int .i64) (.pair (.int .i64) (.pair (.int .i64) (.pair (.int .i64) (.pair (.int .i64) (.pair .str (.pair .str .unit)))))))) .unit))) .f), (.val (.int .i64) .f)] (x0, (x1, ()))
noncomputable def raw (x0 : (List Entry)) (x1 : Int) : Option (Unit × (Int × Unit)) :=
 if (decide ((IntKind.wrap .i64 (x1 - ((List.length x0 : Nat) : Int))) < (0 : Int))) = true then
  some ((), ((-1 : Int), ()))
 else
  if (laws_szEntryS.pre5 (x0, ((IntKind.wrap .i64 (x1 - ((List.length x0 : Nat) : Int))), ((0 : Int), ())))) = true then
   match (laws_szEntryS.fn5 (x0, ((IntKind.wrap .i64 (x1 - ((List.length x0 : Nat) : Int))), ((0 : Int), ())))) with
   | .inl y =>
    some ((), y)
   | .inr y =>
    some ((), y)
  else
   none
theorem ok5 (x1 : List Entry) (x2 x3 : Int) (hp : pre5 (x1, (x2, (x3, ()))) = true) : Rounds pre5 mu5 fn5 (x1, (x2, (x3, ()))) (raw5 x1 x2 x3) := by
  unfold raw5
  by_cases hlt : x3 < (x1.length : Int)
  · obtain ⟨h1, h2, h3⟩ := sz_next (g := laws_szEntry) hp hlt ((0 : Int), (((0 : Int), ((0 : Int), ((0 : Int), ((0 : Int), ((0 : Int), ((0 : Int), (([] : List UInt8), (([] : List UInt8), ())))))))), ()))
    simp only [hlt, h1, decide_true, if_true, decide_eq_true_eq]
    split
    · rename_i h; exact h2 h
    · rename_i h; exact h3 h
  · simp only [hlt, decide_false, Bool.false_eq_true, if_false]
    exact sz_end hp hlt
theorem eq (x0 : List Entry) (x1 : Int) (hw : wf x0 x1) : raw x0 x1 = some ((), (laws_szEntryS x0 x1, ())) := by
  have h1 : x0.length ≤ maxLen := hw.1.1
  unfold raw laws_szEntryS
  simp only [decide_eq_true_eq]
  split
  · rfl
  · rename_i h
    rw [if_pos (show pre5 _ = true from sz_start h1 h)]
    simp only [fn5, szFn, Int.toNat_zero, List.drop_zero]
    split
    · rename_i y hy
      split at hy
      · rename_i h2; cases hy; rw [if_pos h2]
      · cases hy
    · rename_i y hy
      split at hy
      · cases hy
      · rename_i h2; cases hy; rw [if_neg h2]
end laws_szEntryS

def laws_szLog (x : Log) (l : Int) : Int := if laws_szEntryS x.2.2.1 l < 0 then -1 else laws_szEntryS x.2.2.1 l
namespace laws_szLog
abbrev wf (x0 : Log) (x1 : Int) : Prop := wfA [(.val (.pair (.int .i64) (.pair (.int .i64) (.pair (.sl 0 (.pair (.int .i64) (.pair (.pair (.int .i64) (.pair (.int .i64) (.pair (.int .i64) (.pair (.int .i64) (.pair (.int .i64) (.pair (.int .i64) (.pair .str (.pair .str .unit)))))))) .unit))) .unit))) .f), (.val (.int .i64) .f)] (x0, (x1, ()))
noncomputable def raw (x0 : Log) (x1 : Int) : Option (Unit × (Int × Unit)) :=
 if (decide ((laws_szEntryS x0.2.2.1 x1) < (0 : Int))) = true then
  some ((), ((-1 : Int), ()))
 else
  some ((), ((laws_szEntryS x0.2.2.1 x1), ()))
theorem eq (x0 : Log) (x1 : Int) (_ : wf x0 x1) : raw x0 x1 = some ((), (laws_szLog x0 x1, ())) := by
  unfold raw laws_szLog
  simp only [decide_eq_true_eq]
  split <;> rfl
end laws_szLog

theorem szEntryS_small {xs : List Entry} (hl : xs.length ≤ maxLen) {l : Int} (h0 : 0 ≤ l) (h1 : l ≤ 16777216) (h : ¬ laws_szEntryS xs l < 0) : (xs.length : Int) ≤ l := by
  have hM := maxLen_eq
  unfold laws_szEntryS at h
  rw [w64 (by omega) (by omega)] at h
  split at h <;> omega

theorem szLog_small {x : Log} (hl : x.2.2.1.length ≤ maxLen) (h : ¬ laws_szLog x 1048576 < 0) : (x.2.2.1.length : Int) ≤ 1048576 := by
  refine szEntryS_small hl (by omega) (by omega) fun h2 => h ?_
  unfold laws_szLog
  rw [if_pos h2]; omega

def laws_toCmd (c : Cmd) : Cmd := c
namespace laws_toCmd
abbrev wf (x0 : Cmd) : Prop := wfA [(.val (.pair (.int .i64) (.pair (.int .i64) (.pair (.int .i64) (.pair (.int .i64) (.pair (.int .i64) (.pair (.int .i64) (.pair .str (.pair .str .unit)))))))) .f)] (x0, ())
noncomputable def raw (x0 : Cmd) : Option (Unit × (Cmd × Unit)) :=
 some ((), (x0, ()))
theorem eq (x0 : Cmd) (_ : wf x0) : raw x0 = some ((), (laws_toCmd x0, ())) := rfl
end laws_toCmd

def laws_toEntry (c : Entry) : Entry := c
namespace laws_toEntry
abbrev wf (x0 : Entry) : Prop := wfA [(.val (.pair (.int .i64) (.pair (.pair (.int .i64) (.pair (.int .i64) (.pair (.int .i64) (.pair (.int .i64) (.pair (.int .i64) (.pair (.int .i64) (.pair .str (.pair .str .unit)))))))) .unit)) .f)] (x0, ())
noncomputable def raw (x0 : Entry) : Option (Unit × (Entry × Unit)) :=
 some ((), ((x0.1, ((laws_toCmd x0.2.1), ())), ()))
theorem eq (x0 : Entry) (_ : wf x0) : raw x0 = some ((), (laws_toEntry x0, ())) := rfl
end laws_toEntry

def laws_toEntryS (xs : List Entry) : List Entry := xs
namespace laws_toEntryS
def pre (xs : List Entry) : Bool := small xs
noncomputable def pre3 := toPreB (α := Entry)
def fn3 := toFn (α := Entry)
def mu3 := toMu (α := Entry)
noncomputable def raw3 (x1 : (List Entry)) (x2 : Int) (x3 : (List Entry)) : Option (((List Entry) × (Int × ((List Entry) × Unit))) ⊕ ((List Entry) × Unit)) :=
 if (decide (x2 < ((List.length x1 : Nat) : Int))) = true then
  if (decide ((0 : Int) ≤ x2)) = true then
   if (decide (x2 < ((List.length x1 : Nat) : Int))) = true then
    if (decide ((0 : Int) ≤ x2)) = true then
     if (decide (x2 < ((List.length x3 : Nat) : Int))) = true then
      some (.inl (x1, ((IntKind.wrap .i64 (x2 + (1 : Int))), ((List.modify x3 (Int.toNat x2) (fun z => (laws_toEntry (List.getD x1 (Int.toNat x2) ((0 : Int), (((0 : Int), ((0 : Int), ((0 : Int), ((0 : Int), ((0 : Int), ((0 : Int), (([] : List UInt8), (([] : List UInt8), ())))))))), ())))))), ()))))
     else
      none
    else
     none
   else
    none
  else
   none
 else
  some (.inr (x3, ()))
abbrev wf (x0 : (List Entry)) : Prop := wfA [(.val (.sl 0 (.pair (.int .i64) (.pair (.pair (.int .i64) (.pair (.int .i64) (.pair (.int .i64) (.pair (.int .i64) (.pair (.int .i64) (.pair (.int .i64) (.pair .str (.pair .str .unit)))))))) .unit))) .f)] (x0, ())
noncomputable def raw (x0 : (List Entry)) : Option (Unit × ((List Entry) × Unit)) :=
 if (decide ((0 : Int) ≤ ((List.length x0 : Nat) : Int))) = true then
  if (decide (((List.length x0 : Nat) : Int) ≤ ((List.length x0 : Nat) : Int))) = true then
   if (decide (((List.length x0 : Nat) : Int) ≤ (4294967296 : Int))) = true then
    if (laws_toEntryS.pre3 (x0, ((0 : Int), ((List.replicate (Int.toNat ((List.length x0 : Nat) : Int)) ((0 : Int), (((0 : Int), ((0 : Int), ((0 : Int), ((0 : Int), ((0 : Int), ((0 : Int), (([] : List UInt8), (([] : List UInt8), ())))))))), ()))), ())))) = true then
     some ((), (laws_toEntryS.fn3 (x0, ((0 : Int), ((List.replicate (Int.toNat ((List.length x0 : Nat) : Int)) ((0 : Int), (((0 : Int), ((0 : Int), ((0 : Int), ((0 : Int), ((0 : Int), ((0 : Int), (([] : List UInt8), (([] : List UInt8), ())))))))), ()))), ())))))
    else
     none
   else
    none
  else
   none
 else
  none
theorem ok3 (x1 : List Entry) (x2 : Int) (x3 : List Entry) (hp : pre3 (x1, (x2, (x3, ()))) = true) : Rounds pre3 mu3 fn3 (x1, (x2, (x3, ()))) (raw3 x1 x2 x3) := by
  unfold raw3
  by_cases hlt : x2 < (x1.length : Int)
  · obtain ⟨h1, h2, h3⟩ := to_next hp hlt ((0 : Int), (((0 : Int), ((0 : Int), ((0 : Int), ((0 : Int), ((0 : Int), ((0 : Int), (([] : List UInt8), (([] : List UInt8), ())))))))), ()))
    simp only [hlt, h1, h2, decide_true, if_true]
    exact h3
  · simp only [hlt, decide_false, Bool.false_eq_true, if_false]
    exact to_end hp hlt
theorem eq (x0 : List Entry) (hw : wf x0) (hp : pre x0 = true) : raw x0 = some ((), (laws_toEntryS x0, ())) := by
  have h1 : x0.length ≤ maxLen := hw.1.1
  rw [pre, small_iff] at hp
  unfold raw laws_toEntryS
  rw [if_pos (by simp), if_pos (by simp), if_pos (by simp; omega), if_pos (show pre3 _ = true from to_start h1 _)]
  rfl
end laws_toEntryS

def laws_toLog (x : Log) : Log := x
namespace laws_toLog
def pre (x : Log) : Bool := small x.2.2.1
abbrev wf (x0 : Log) : Prop := wfA [(.val (.pair (.int .i64) (.pair (.int .i64) (.pair (.sl 0 (.pair (.int .i64) (.pair (.pair (.int .i64) (.pair (.int .i64) (.pair (.int .i64) (.pair (.int .i64) (.pair (.int .i64) (.pair (.int .i64) (.pair .str (.pair .str .unit)))))))) .unit))) .unit))) .f)] (x0, ())
noncomputable def raw (x0 : Log) : Option (Unit × (Log × Unit)) :=
 if (laws_toEntryS.pre x0.2.2.1) = true then
  some ((), ((x0.1, (x0.2.1, ((laws_toEntryS x0.2.2.1), ()))), ()))
 else
  none
theorem eq (x0 : Log) (_ : wf x0) (hp : pre x0 = true) : raw x0 = some ((), (laws_toLog x0, ())) := by
  unfold raw
  rw [if_pos (show laws_toEntryS.pre _ = true from hp)]; rfl
end laws_toLog

noncomputable def laws_eqCmd (a b : Cmd) : Bool := same a b
namespace laws_eqCmd
abbrev wf (x0 : Cmd) (x1 : Cmd) : Prop := wfA [(.val (.pair (.int .i64) (.pair (.int .i64) (.pair (.int .i64) (.pair (.int .i64) (.pair (.int .i64) (.pair (.int .i64) (.pair .str (.pair .str .unit)))))))) .f), (.val (.pair (.int .i64) (.pair (.int .i64) (.pair (.int .i64) (.pair (.int .i64) (.pair (.int .i64) (.pair (.int .i64) (.pair .str (.pair .str .unit)))))))) .f)] (x0, (x1, ()))
noncomputable def raw (x0 : Cmd) (x1 : Cmd) : Option (Unit × (Bool × Unit)) :=
 if (!(decide (x0.1 = x1.1))) = true then
  some ((), (false, ()))
 else
  if (!(decide (x0.2.1 = x1.2.1))) = true then
   some ((), (false, ()))
  else
   if (!(decide (x0.2.2.1 = x1.2.2.1))) = true then
    some ((), (false, ()))
   else
    if (!(decide (x0.2.2.2.1 = x1.2.2.2.1))) = true then
     some ((), (false, ()))
    else
     if (!(decide (x0.2.2.2.2.1 = x1.2.2.2.2.1))) = true then
      some ((), (false, ()))
     else
      if (!(decide (x0.2.2.2.2.2.1 = x1.2.2.2.2.2.1))) = true then
       some ((), (false, ()))
      else
       if (!(x0.2.2.2.2.2.2.1 == x1.2.2.2.2.2.2.1)) = true then
        some ((), (false, ()))
       else
        if (!(x0.2.2.2.2.2.2.2.1 == x1.2.2.2.2.2.2.2.1)) = true then
         some ((), (false, ()))
        else
         some ((), (true, ()))
theorem eq (x0 x1 : Cmd) (_ : wf x0 x1) : raw x0 x1 = some ((), (laws_eqCmd x0 x1, ())) := by
  obtain ⟨a1, a2, a3, a4, a5, a6, a7, a8, _⟩ := x0
  obtain ⟨b1, b2, b3, b4, b5, b6, b7, b8, _⟩ := x1
  unfold raw laws_eqCmd
  simp only [Bool.not_eq_true', decide_eq_false_iff_not, beq_eq_false_iff_ne, ne_eq]
  by_cases h1 : a1 = b1
  case neg => rw [if_pos h1, same_false.2 (by simp [h1])]
  rw [if_neg (by simp [h1])]
  by_cases h2 : a2 = b2
  case neg => rw [if_pos h2, same_false.2 (by simp [h2])]
  rw [if_neg (by simp [h2])]
  by_cases h3 : a3 = b3
  case neg => rw [if_pos h3, same_false.2 (by simp [h3])]
  rw [if_neg (by simp [h3])]
  by_cases h4 : a4 = b4
  case neg => rw [if_pos h4, same_false.2 (by simp [h4])]
  rw [if_neg (by simp [h4])]
  by_cases h5 : a5 = b5
  case neg => rw [if_pos h5, same_false.2 (by simp [h5])]
  rw [if_neg (by simp [h5])]
  by_cases h6 : a6 = b6
  case neg => rw [if_pos h6, same_false.2 (by simp [h6])]
  rw [if_neg (by simp [h6])]
  by_cases h7 : a7 = b7
  case neg => rw [if_pos h7, same_false.2 (by simp [h7])]
  rw [if_neg (by simp [h7])]
  by_cases h8 : a8 = b8
  case neg => rw [if_pos h8, same_false.2 (by simp [h8])]
  rw [if_neg (by simp [h8])]
  rw [same_true.2 (by simp [h1, h2, h3, h4, h5, h6, h7, h8])]
end laws_eqCmd

noncomputable def laws_eqEntry (a b : Entry) : Bool := same a b
namespace laws_eqEntry
abbrev wf (x0 : Entry) (x1 : Entry) : Prop := wfA [(.val (.pair (.int .i64) (.pair (.pair (.int .i64) (.pair (.int .i64) (.pair (.int .i64) (.pair (.int .i64) (.pair (.int .i64) (.pair (.int .i64) (.pair .str (.pair .str .unit)))))))) .unit)) .f), (.val (.pair (.int .i64) (.pair (.pair (.int .i64) (.pair (.int .i64) (.pair (.int .i64) (.pair (.int .i64) (.pair (.int .i64) (.pair (.int .i64) (.pair .str (.pair .str .unit)))))))) .unit)) .f)] (x0, (x1, ()))
noncomputable def raw (x0 : Entry) (x1 : Entry) : Option (Unit × (Bool × Unit)) :=
 if (!(decide (x0.1 = x1.1))) = true then
  some ((), (false, ()))
 else
  if (!(laws_eqCmd x0.2.1 x1.2.1)) = true then
   some ((), (false, ()))
  else
   some ((), (true, ()))
theorem eq (x0 x1 : Entry) (_ : wf x0 x1) : raw x0 x1 = some ((), (laws_eqEntry x0 x1, ())) := by
  obtain ⟨a1, a2, _⟩ := x0
  obtain ⟨b1, b2, _⟩ := x1
  unfold raw laws_eqEntry laws_eqCmd
  simp only [Bool.not_eq_true', decide_eq_false_iff_not, same_false]
  by_cases h1 : a1 = b1
  case neg => rw [if_pos h1, same_false.2 (by simp [h1])]
  rw [if_neg (by simp [h1])]
  by_cases h2 : a2 = b2
  case neg => rw [if_pos (by simp [same_false.2 h2]), same_false.2 (by simp [h2])]
  rw [if_neg (by simp [same_true.2 h2]), same_true.2 (by simp [h1, h2])]
end laws_eqEntry

noncomputable def laws_eqEntryS (a b : List Entry) : Bool := same a b
namespace laws_eqEntryS
def pre4 := eqPre (α := Entry)
noncomputable def fn4 := eqFn (α := Entry)
def mu4 := eqMu (α := Entry)
noncomputable def raw4 (x1 : (List Entry)) (x2 : (List Entry)) (x3 : Int) : Option (((List Entry) × ((List Entry) × (Int × Unit))) ⊕ ((Bool × Unit) ⊕ Unit)) :=
 if (decide (x3 < ((List.length x1 : Nat) : Int))) = true then
  if (decide ((0 : Int) ≤ x3)) = true then
   if (decide (x3 < ((List.length x1 : Nat) : Int))) = true then
    if (decide ((0 : Int) ≤ x3)) = true then
     if (decide (x3 < ((List.length x2 : Nat) : Int))) = true then
      if (!(laws_eqEntry (List.getD x1 (Int.toNat x3) ((0 : Int), (((0 : Int), ((0 : Int), ((0 : Int), ((0 : Int), ((0 : Int), ((0 : Int), (([] : List UInt8), (([] : List UInt8), ())))))))), ()))) (List.getD x2 (Int.toNat x3) ((0 : Int), (((0 : Int), ((0 : Int), ((0 : Int), ((0 : Int), ((0 : Int), ((0 : Int), (([] : List UInt8), (([] : List UInt8), ())))))))), ()))))) = true then
       some (.inr (.inl (false, ())))
      else
       some (.inl (x1, (x2, ((IntKind.wrap .i64 (x3 + (1 : Int))), ()))))
     else
      none
    else
     none
   else
    none
  else
   none
 else
  some (.inr (.inr ()))
abbrev wf (x0 : (List Entry)) (x1 : (List Entry)) : Prop := wfA [(.val (.sl 0 (.pair (.int .i64) (.pair (.pair (.int .i64) (.pair (.int .i64) (.pair (.int .i64) (.pair (.int .i64) (.pair (.int .i64) (.pair (.int .i64) (.pair .str (.pair .str .unit)))))))) .unit))) .f), (.val (.sl 0 (.pair (.int .i64) (.pair (.pair (.int .i64) (.pair (.int .i64) (.pair (.int .i64) (.pair (.int .i64) (.pair (.int .i64) (.pair (.int .i64) (.pair .str (.pair .str .unit)))))))) .unit))) .f)] (x0, (x1, ()))
noncomputable def raw (x0 : (List Entry)) (x1 : (List Entry)) : Option (Unit × (Bool × Unit)) :=
 if (!(decide (((List.length x0 : Nat) : Int) = ((List.length x1 : Nat) : Int)))) = true then
  some ((), (false, ()))
 else
  if (laws_eqEntryS.pre4 (x0, (x1, ((0 : Int), ())))) = true then
   match (laws_eqEntryS.fn4 (x0, (x1, ((0 : Int), ())))) with
   | .inl y =>
    some ((), y)
   | .inr y =>
    some ((), (true, ()))
  else
   none
theorem ok4 (x1 x2 : List Entry) (x3 : Int) (hp : pre4 (x1, (x2, (x3, ()))) = true) : Rounds pre4 mu4 fn4 (x1, (x2, (x3, ()))) (raw4 x1 x2 x3) := by
  unfold raw4
  by_cases hlt : x3 < (x1.length : Int)
  · obtain ⟨h1, h2, h3, h4⟩ := eq_next hp hlt ((0 : Int), (((0 : Int), ((0 : Int), ((0 : Int), ((0 : Int), ((0 : Int), ((0 : Int), (([] : List UInt8), (([] : List UInt8), ())))))))), ()))
    simp only [hlt, h1, h2, decide_true, if_true]
    by_cases h : x1.getD x3.toNat ((0 : Int), (((0 : Int), ((0 : Int), ((0 : Int), ((0 : Int), ((0 : Int), ((0 : Int), (([] : List UInt8), (([] : List UInt8), ())))))))), ())) = x2.getD x3.toNat ((0 : Int), (((0 : Int), ((0 : Int), ((0 : Int), ((0 : Int), ((0 : Int), ((0 : Int), (([] : List UInt8), (([] : List UInt8), ())))))))), ()))
    · rw [if_neg (by rw [laws_eqEntry, same_true.2 h]; simp)]; exact h3 h
    · rw [if_pos (by rw [laws_eqEntry, same_false.2 h]; rfl)]; exact h4 h
  · simp only [hlt, decide_false, Bool.false_eq_true, if_false]
    exact eq_end hp hlt
theorem eq (x0 x1 : List Entry) (hw : wf x0 x1) : raw x0 x1 = some ((), (laws_eqEntryS x0 x1, ())) := by
  have h1 : x0.length ≤ maxLen := hw.1.1
  unfold raw laws_eqEntryS
  by_cases hl : (x0.length : Int) = (x1.length : Int)
  · rw [if_neg (by simp [hl]), if_pos (show pre4 _ = true from eq_start h1 hl)]
    unfold fn4
    by_cases he : x0 = x1
    · rw [eqFn_eq he, same_true.2 he]
    · rw [eqFn_ne he, same_false.2 he]
  · have : ¬ x0 = x1 := fun h => hl (by rw [h])
    rw [if_pos (by simp [hl]), same_false.2 this]
end laws_eqEntryS

noncomputable def laws_eqLog (a b : Log) : Bool := same a b
namespace laws_eqLog
abbrev wf (x0 : Log) (x1 : Log) : Prop := wfA [(.val (.pair (.int .i64) (.pair (.int .i64) (.pair (.sl 0 (.pair (.int .i64) (.pair (.pair (.int .i64) (.pair (.int .i64) (.pair (.int .i64) (.pair (.int .i64) (.pair (.int .i64) (.pair (.int .i64) (.pair .str (.pair .str .unit)))))))) .unit))) .unit))) .f), (.val (.pair (.int .i64) (.pair (.int .i64) (.pair (.sl 0 (.pair (.int .i64) (.pair (.pair (.int .i64) (.pair (.int .i64) (.pair (.int .i64) (.pair (.int .i64) (.pair (.int .i64) (.pair (.int .i64) (.pair .str (.pair .str .unit)))))))) .unit))) .unit))) .f)] (x0, (x1, ()))
noncomputable def raw (x0 : Log) (x1 : Log) : Option (Unit × (Bool × Unit)) :=
 if (!(decide (x0.1 = x1.1))) = true then
  some ((), (false, ()))
 else
  if (!(decide (x0.2.1 = x1.2.1))) = true then
   some ((), (false, ()))
  else
   if (!(laws_eqEntryS x0.2.2.1 x1.2.2.1)) = true then
    some ((), (false, ()))
   else
    some ((), (true, ()))
theorem eq (x0 x1 : Log) (_ : wf x0 x1) : raw x0 x1 = some ((), (laws_eqLog x0 x1, ())) := by
  obtain ⟨a1, a2, a3, _⟩ := x0
  obtain ⟨b1, b2, b3, _⟩ := x1
  unfold raw laws_eqLog laws_eqEntryS
  simp only [Bool.not_eq_true', decide_eq_false_iff_not, same_false]
  by_cases h1 : a1 = b1
  case neg => rw [if_pos h1, same_false.2 (by simp [h1])]
  rw [if_neg (by simp [h1])]
  by_cases h2 : a2 = b2
  case neg => rw [if_pos h2, same_false.2 (by simp [h2])]
  rw [if_neg (by simp [h2])]
  by_cases h3 : a3 = b3
  case neg => rw [if_pos (by simp [same_false.2 h3]), same_false.2 (by simp [h3])]
  rw [if_neg (by simp [same_true.2 h3])]
  rw [same_true.2 (by simp [h1, h2, h3])]
end laws_eqLog
theorem eqLog_self (d : Log) : laws_eqLog d d = true := same_self d
end Go.Aw.Pl
