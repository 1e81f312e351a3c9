/-
  Disks: what the functions of the program, of the reference and of the laws do.
-/
import Derived.Test.YtdiiffflfoadhaaPlA
namespace Go.Aw.Pl
open Go Go.Aw

def impl_within (n lo hi : Int) : Bool := decide (lo ≤ n) && decide (n ≤ hi)
namespace impl_within
abbrev wf (x0 : Int) (x1 : Int) (x2 : Int) : Prop := wfA [(.val (.int .i64) .f), (.val (.int .i64) .f), (.val (.int .i64) .f)] (x0, (x1, (x2, ())))
def raw (x0 : Int) (x1 : Int) (x2 : Int) : Option (Unit × (Bool × Unit)) :=
 if (decide (x1 ≤ x0)) = true then
  some ((), ((decide (x0 ≤ x2)), ()))
 else
  some ((), (false, ()))
theorem eq (x0 x1 x2 : Int) (_ : wf x0 x1 x2) : raw x0 x1 x2 = some ((), (impl_within x0 x1 x2, ())) := by
  unfold raw impl_within
  by_cases h : x1 ≤ x0 <;> simp [h]
end impl_within

def spec_l1In (n lo hi : Int) : Bool := decide (lo ≤ n) && decide (n ≤ hi)
namespace spec_l1In
abbrev wf (x0 : Int) (x1 : Int) (x2 : Int) : Prop := wfA [(.val (.int .i64) .f), (.val (.int .i64) .f), (.val (.int .i64) .f)] (x0, (x1, (x2, ())))
def raw (x0 : Int) (x1 : Int) (x2 : Int) : Option (Unit × (Bool × Unit)) :=
 if (decide (x1 ≤ x0)) = true then
  some ((), ((decide (x0 ≤ x2)), ()))
 else
  some ((), (false, ()))
theorem eq (x0 x1 x2 : Int) (_ : wf x0 x1 x2) : raw x0 x1 x2 = some ((), (spec_l1In x0 x1 x2, ())) := by
  unfold raw spec_l1In
  by_cases h : x1 ≤ x0 <;> simp [h]
end spec_l1In

def spec_l1Min (a b : Int) : Int := min a b
namespace spec_l1Min
abbrev wf (x0 : Int) (x1 : Int) : Prop := wfA [(.val (.int .i64) .f), (.val (.int .i64) .f)] (x0, (x1, ()))
def raw (x0 : Int) (x1 : Int) : Option (Unit × (Int × Unit)) :=
 if (decide (x0 < x1)) = true then
  some ((), (x0, ()))
 else
  some ((), (x1, ()))
theorem eq (x0 x1 : Int) (_ : wf x0 x1) : raw x0 x1 = some ((), (spec_l1Min x0 x1, ())) := by
  unfold raw spec_l1Min
  by_cases h : x0 < x1
  · simp [h]; omega
  · simp [h]; omega
end spec_l1Min

def spec_l1Max (a b : Int) : Int := max a b
namespace spec_l1Max
abbrev wf (x0 : Int) (x1 : Int) : Prop := wfA [(.val (.int .i64) .f), (.val (.int .i64) .f)] (x0, (x1, ()))
def raw (x0 : Int) (x1 : Int) : Option (Unit × (Int × Unit)) :=
 if (decide (x1 < x0)) = true then
  some ((), (x0, ()))
 else
  some ((), (x1, ()))
theorem eq (x0 x1 : Int) (_ : wf x0 x1) : raw x0 x1 = some ((), (spec_l1Max x0 x1, ())) := by
  unfold raw spec_l1Max
  by_cases h : x1 < x0
  · simp [h]; omega
  · simp [h]; omega
end spec_l1Max

def laws_szByteS (xs : List Int) (left : Int) : Int := let l := IntKind.wrap .i64 (left - xs.length); if l < 0 then -1 else l
namespace laws_szByteS
abbrev wf (x0 : (List Int)) (x1 : Int) : Prop := wfA [(.val (.sl 0 (.int .u8)) .f), (.val (.int .i64) .f)] (x0, (x1, ()))
def raw (x0 : (List Int)) (x1 : Int) : Option (Unit × (Int × Unit)) :=
 if (decide ((IntKind.wrap .i64 (x1 - ((List.length x0 : Nat) : Int))) < (0 : Int))) = true then
  some ((), ((-1 : Int), ()))
 else
  some ((), ((IntKind.wrap .i64 (x1 - ((List.length x0 : Nat) : Int))), ()))
theorem eq (x0 : List Int) (x1 : Int) (_ : wf x0 x1) : raw x0 x1 = some ((), (laws_szByteS x0 x1, ())) := by
  unfold raw laws_szByteS
  by_cases h : IntKind.wrap .i64 (x1 - (x0.length : Int)) < 0 <;> simp [h]
end laws_szByteS

abbrev Disk := List Int × (Int × Unit)

def laws_szDisk (d : Disk) (left : Int) : Int := laws_szByteS d.1 left
namespace laws_szDisk
abbrev wf (x0 : ((List Int) × (Int × Unit))) (x1 : Int) : Prop := wfA [(.val (.pair (.sl 0 (.int .u8)) (.pair (.int .i64) .unit)) .f), (.val (.int .i64) .f)] (x0, (x1, ()))
def raw (x0 : ((List Int) × (Int × Unit))) (x1 : Int) : Option (Unit × (Int × Unit)) :=
 if (decide ((laws_szByteS x0.1 x1) < (0 : Int))) = true then
  some ((), ((-1 : Int), ()))
 else
  some ((), ((laws_szByteS x0.1 x1), ()))
theorem eq (x0 : Disk) (x1 : Int) (_ : wf x0 x1) : raw x0 x1 = some ((), (laws_szDisk x0 x1, ())) := by
  unfold raw laws_szDisk
  by_cases h : laws_szByteS x0.1 x1 < 0
  · simp only [h, decide_true, if_true]
    unfold laws_szByteS at h ⊢
    dsimp only at h ⊢
    split
    · rfl
    · rename_i h2; rw [if_neg h2] at h; exact absurd h h2
  · simp [h]
end laws_szDisk

def laws_toByteS (xs : List Int) : List Int := xs
namespace laws_toByteS
def pre (xs : List Int) : Bool := small xs
abbrev S := List Int × (Int × (List Int × Unit))
def pre3 : S → Bool := fun s => decide (s.1.length ≤ maxLen) && decide (0 ≤ s.2.1) && decide (s.2.1.toNat ≤ s.1.length) && decide (s.2.2.1.length = s.1.length) && (s.2.2.1.take s.2.1.toNat == s.1.take s.2.1.toNat)
def fn3 : S → List Int × Unit := fun s => (s.1, ())
def mu3 : S → Nat := fun s => s.1.length - s.2.1.toNat
def raw3 (x1 : (List Int)) (x2 : Int) (x3 : (List Int)) : Option (((List Int) × (Int × ((List Int) × Unit))) ⊕ ((List Int) × Unit)) :=
 if (decide (x2 < ((List.length x1 : Nat) : Int))) = true then
  if (decide ((0 : Int) ≤ x2)) = true then
   if (decide (x2 < ((List.length x1 : Nat) : Int))) = true then
    if (decide ((0 : Int) ≤ x2)) = true then
     if (decide (x2 < ((List.length x3 : Nat) : Int))) = true then
      some (.inl (x1, ((IntKind.wrap .i64 (x2 + (1 : Int))), ((List.set x3 (Int.toNat x2) (List.getD x1 (Int.toNat x2) (0 : Int))), ()))))
     else
      none
    else
     none
   else
    none
  else
   none
 else
  some (.inr (x3, ()))
abbrev wf (x0 : (List Int)) : Prop := wfA [(.val (.sl 0 (.int .u8)) .f)] (x0, ())
def raw (x0 : (List Int)) : Option (Unit × ((List Int) × Unit)) :=
 if (decide ((0 : Int) ≤ ((List.length x0 : Nat) : Int))) = true then
  if (decide (((List.length x0 : Nat) : Int) ≤ ((List.length x0 : Nat) : Int))) = true then
   if (decide (((List.length x0 : Nat) : Int) ≤ (4294967296 : Int))) = true then
    if (laws_toByteS.pre3 (x0, ((0 : Int), ((List.replicate (Int.toNat ((List.length x0 : Nat) : Int)) (0 : Int)), ())))) = true then
     some ((), ((laws_toByteS.fn3 (x0, ((0 : Int), ((List.replicate (Int.toNat ((List.length x0 : Nat) : Int)) (0 : Int)), ())))).1, ()))
    else
     none
   else
    none
  else
   none
 else
  none
theorem ok3 (x1 : List Int) (x2 : Int) (x3 : List Int) (hp : pre3 (x1, (x2, (x3, ()))) = true) : Rounds pre3 mu3 fn3 (x1, (x2, (x3, ()))) (raw3 x1 x2 x3) := by
  simp only [pre3, Bool.and_eq_true, decide_eq_true_eq, beq_iff_eq] at hp
  have hM := maxLen_eq
  obtain ⟨⟨⟨⟨h1, h2⟩, h3⟩, h4⟩, h5⟩ := hp
  unfold raw3
  by_cases hlt : x2 < (x1.length : Int)
  · have hlt3 : x2 < (x3.length : Int) := by omega
    have hn : x2.toNat < x1.length := by omega
    simp only [hlt, hlt3, h2, decide_true, if_true, Rounds, w64 (n := x2 + 1) (by omega) (by omega)]
    refine ⟨?_, ?_, rfl⟩
    · simp only [pre3, Bool.and_eq_true, decide_eq_true_eq, beq_iff_eq, List.length_set]
      refine ⟨⟨⟨⟨h1, by omega⟩, by omega⟩, h4⟩, ?_⟩
      rw [show (x2 + 1).toNat = x2.toNat + 1 by omega, List.take_add_one, List.take_add_one, List.take_set_of_le (by omega), h5]
      congr 1
      rw [List.getElem?_set_self (by omega), getD_get hn, List.getElem?_eq_getElem hn]
    · simp only [mu3]; omega
  · simp only [hlt, decide_false, Bool.false_eq_true, if_false, Rounds, fn3]
    have : x2.toNat = x1.length := by omega
    rw [this, List.take_length, ← h4, List.take_length] at h5
    rw [h5]
theorem eq (x0 : List Int) (hw : wf x0) (hp : pre x0 = true) : raw x0 = some ((), (laws_toByteS x0, ())) := by
  have h1 : x0.length ≤ maxLen := hw.1.1
  rw [pre, small_iff] at hp
  unfold raw laws_toByteS
  have hpre : pre3 (x0, ((0 : Int), (List.replicate (Int.toNat ((x0.length : Nat) : Int)) (0 : Int), ()))) = true := by
    simp [pre3, h1]
  simp only [hpre, fn3]
  rw [if_pos (by simp), if_pos (by simp), if_pos (by simp; omega), if_pos trivial]
end laws_toByteS

def laws_toDisk (d : Disk) : Disk := d
namespace laws_toDisk
def pre (d : Disk) : Bool := small d.1
abbrev wf (x0 : ((List Int) × (Int × Unit))) : Prop := wfA [(.val (.pair (.sl 0 (.int .u8)) (.pair (.int .i64) .unit)) .f)] (x0, ())
def raw (x0 : ((List Int) × (Int × Unit))) : Option (Unit × (((List Int) × (Int × Unit)) × Unit)) :=
 if (laws_toByteS.pre x0.1) = true then
  some ((), (((laws_toByteS x0.1), (x0.2.1, ())), ()))
 else
  none
theorem eq (x0 : Disk) (hw : wf x0) (hp : pre x0 = true) : raw x0 = some ((), (laws_toDisk x0, ())) := by
  unfold raw
  rw [if_pos (show laws_toByteS.pre x0.1 = true from hp)]; rfl
end laws_toDisk

def laws_eqByteS (xs ys : List Int) : Bool := xs == ys
namespace laws_eqByteS
abbrev S := List Int × (List Int × (Int × Unit))
def pre4 : S → Bool := fun s => decide (s.1.length ≤ maxLen) && decide (0 ≤ s.2.2.1) && decide (s.2.2.1.toNat ≤ s.1.length) && decide (s.2.1.length = s.1.length)
def fn4 : S → (Bool × Unit) ⊕ Unit := fun s => if s.1.drop s.2.2.1.toNat = s.2.1.drop s.2.2.1.toNat then .inr () else .inl (false, ())
def mu4 : S → Nat := fun s => s.1.length - s.2.2.1.toNat
def raw4 (x1 : (List Int)) (x2 : (List Int)) (x3 : Int) : Option (((List Int) × ((List Int) × (Int × Unit))) ⊕ ((Bool × Unit) ⊕ Unit)) :=
 if (decide (x3 < ((List.length x1 : Nat) : Int))) = true then
  if (decide ((0 : Int) ≤ x3)) = true then
   if (decide (x3 < ((List.length x1 : Nat) : Int))) = true then
    if (decide ((0 : Int) ≤ x3)) = true then
     if (decide (x3 < ((List.length x2 : Nat) : Int))) = true then
      if (!(decide ((List.getD x1 (Int.toNat x3) (0 : Int)) = (List.getD x2 (Int.toNat x3) (0 : Int))))) = true then
       some (.inr (.inl (false, ())))
      else
       some (.inl (x1, (x2, ((IntKind.wrap .i64 (x3 + (1 : Int))), ()))))
     else
      none
    else
     none
   else
    none
  else
   none
 else
  some (.inr (.inr ()))
abbrev wf (x0 : (List Int)) (x1 : (List Int)) : Prop := wfA [(.val (.sl 0 (.int .u8)) .f), (.val (.sl 0 (.int .u8)) .f)] (x0, (x1, ()))
def raw (x0 : (List Int)) (x1 : (List Int)) : Option (Unit × (Bool × Unit)) :=
 if (!(decide (((List.length x0 : Nat) : Int) = ((List.length x1 : Nat) : Int)))) = true then
  some ((), (false, ()))
 else
  if (laws_eqByteS.pre4 (x0, (x1, ((0 : Int), ())))) = true then
   match (laws_eqByteS.fn4 (x0, (x1, ((0 : Int), ())))) with
   | .inl y =>
    some ((), (y.1, ()))
   | .inr y =>
    some ((), (true, ()))
  else
   none
theorem ok4 (x1 : List Int) (x2 : List Int) (x3 : Int) (hp : pre4 (x1, (x2, (x3, ()))) = true) : Rounds pre4 mu4 fn4 (x1, (x2, (x3, ()))) (raw4 x1 x2 x3) := by
  simp only [pre4, Bool.and_eq_true, decide_eq_true_eq] at hp
  have hM := maxLen_eq
  obtain ⟨⟨⟨h1, h2⟩, h3⟩, h4⟩ := hp
  unfold raw4
  by_cases hlt : x3 < (x1.length : Int)
  · have hlt2 : x3 < (x2.length : Int) := by omega
    have hn : x3.toNat < x1.length := by omega
    have hn2 : x3.toNat < x2.length := by omega
    simp only [hlt, hlt2, h2, decide_true, if_true, w64 (n := x3 + 1) (by omega) (by omega)]
    have e1 := List.drop_eq_getElem_cons hn
    have e2 := List.drop_eq_getElem_cons hn2
    rw [getD_get hn, getD_get hn2]
    by_cases he : x1[x3.toNat] = x2[x3.toNat]
    · simp only [he, decide_true, Bool.not_true, Bool.false_eq_true, if_false, Rounds]
      refine ⟨?_, ?_, ?_⟩
      · simp only [pre4, Bool.and_eq_true, decide_eq_true_eq]
        exact ⟨⟨⟨h1, by omega⟩, by omega⟩, h4⟩
      · simp only [mu4]; omega
      · simp only [fn4, show (x3 + 1).toNat = x3.toNat + 1 by omega, e1, e2, he, List.cons.injEq, true_and]
    · simp only [he, decide_false, Bool.not_false, if_true, Rounds, fn4, e1, e2, List.cons.injEq, false_and, if_false]
  · simp only [hlt, decide_false, Bool.false_eq_true, if_false, Rounds, fn4]
    rw [List.drop_eq_nil_of_le (by omega), List.drop_eq_nil_of_le (by omega), if_pos rfl]
theorem eq (x0 x1 : List Int) (hw : wf x0 x1) : raw x0 x1 = some ((), (laws_eqByteS x0 x1, ())) := by
  have h1 : x0.length ≤ maxLen := hw.1.1
  unfold raw laws_eqByteS
  by_cases hl : (x0.length : Int) = (x1.length : Int)
  · have hpre : pre4 (x0, (x1, ((0 : Int), ()))) = true := by simp [pre4, h1]; omega
    simp only [hl, decide_true, Bool.not_true, Bool.false_eq_true, if_false, hpre, if_true, fn4, Int.toNat_zero, List.drop_zero]
    by_cases he : x0 = x1
    · simp [he]
    · simp [he]
  · have : ¬ x0 = x1 := fun h => hl (by rw [h])
    simp [hl, this]
end laws_eqByteS

def laws_eqDisk (a b : Disk) : Bool := decide (a = b)
namespace laws_eqDisk
abbrev wf (x0 : ((List Int) × (Int × Unit))) (x1 : ((List Int) × (Int × Unit))) : Prop := wfA [(.val (.pair (.sl 0 (.int .u8)) (.pair (.int .i64) .unit)) .f), (.val (.pair (.sl 0 (.int .u8)) (.pair (.int .i64) .unit)) .f)] (x0, (x1, ()))
def raw (x0 : ((List Int) × (Int × Unit))) (x1 : ((List Int) × (Int × Unit))) : Option (Unit × (Bool × Unit)) :=
 if (!(laws_eqByteS x0.1 x1.1)) = true then
  some ((), (false, ()))
 else
  if (!(decide (x0.2.1 = x1.2.1))) = true then
   some ((), (false, ()))
  else
   some ((), (true, ()))
theorem eq (x0 x1 : Disk) (_ : wf x0 x1) : raw x0 x1 = some ((), (laws_eqDisk x0 x1, ())) := by
  obtain ⟨a, b, _⟩ := x0
  obtain ⟨c, d, _⟩ := x1
  unfold raw laws_eqDisk laws_eqByteS
  by_cases h1 : a = c
  · by_cases h2 : b = d <;> simp [h1, h2]
  · simp [h1]
end laws_eqDisk

def laws_markByteS (xs : List Int) (k : Int) : List Int × Int := (markL xs.length k, markK xs.length k)
namespace laws_markByteS
abbrev S := Int × (Int × (List Int × Unit))
def pre2 : S → Bool := fun s => decide (s.2.2.1.length ≤ maxLen) && decide (0 ≤ s.2.1) && decide (s.2.1.toNat ≤ s.2.2.1.length)
def fn2 : S → Int × (List Int × Unit) := fun s => (markK (s.2.2.1.length - s.2.1.toNat) s.1, (s.2.2.1.take s.2.1.toNat ++ markL (s.2.2.1.length - s.2.1.toNat) s.1, ()))
def mu2 : S → Nat := fun s => s.2.2.1.length - s.2.1.toNat
def raw2 (x1 : Int) (x2 : Int) (x3 : (List Int)) : Option ((Int × (Int × ((List Int) × Unit))) ⊕ (Int × ((List Int) × Unit))) :=
 if (decide (x2 < ((List.length x3 : Nat) : Int))) = true then
  if (decide ((0 : Int) ≤ x2)) = true then
   if (decide (x2 < ((List.length x3 : Nat) : Int))) = true then
    some (.inl ((IntKind.wrap .i64 (x1 + (1 : Int))), ((IntKind.wrap .i64 (x2 + (1 : Int))), ((List.set x3 (Int.toNat x2) (IntKind.wrap .u8 x1)), ()))))
   else
    none
  else
   none
 else
  some (.inr (x1, (x3, ())))
abbrev wf (x0 : (List Int)) (x1 : Int) : Prop := wfA [(.mut (.sl 0 (.int .u8))), (.val (.int .i64) .f)] (x0, (x1, ()))
def raw (x0 : (List Int)) (x1 : Int) : Option (((List Int) × Unit) × (Int × Unit)) :=
 if (laws_markByteS.pre2 (x1, ((0 : Int), (x0, ())))) = true then
  some (((laws_markByteS.fn2 (x1, ((0 : Int), (x0, ())))).2.1, ()), ((laws_markByteS.fn2 (x1, ((0 : Int), (x0, ())))).1, ()))
 else
  none
theorem ok2 (x1 x2 : Int) (x3 : List Int) (hp : pre2 (x1, (x2, (x3, ()))) = true) : Rounds pre2 mu2 fn2 (x1, (x2, (x3, ()))) (raw2 x1 x2 x3) := by
  simp only [pre2, Bool.and_eq_true, decide_eq_true_eq] at hp
  have hM := maxLen_eq
  obtain ⟨⟨h1, h2⟩, h3⟩ := hp
  unfold raw2
  by_cases hlt : x2 < (x3.length : Int)
  · have hn : x2.toNat < x3.length := by omega
    simp only [hlt, h2, decide_true, if_true, w64 (n := x2 + 1) (by omega) (by omega), Rounds]
    refine ⟨?_, ?_, ?_⟩
    · simp only [pre2, Bool.and_eq_true, decide_eq_true_eq, maxLen_eq, List.length_set]
      exact ⟨⟨h1, by omega⟩, by omega⟩
    · simp only [mu2, List.length_set]; omega
    · simp only [fn2, List.length_set, show (x2 + 1).toNat = x2.toNat + 1 by omega]
      rw [show x3.length - x2.toNat = (x3.length - (x2.toNat + 1)) + 1 by omega]
      simp only [markK, markL]
      rw [List.take_add_one, List.take_set_of_le (by omega), List.getElem?_set_self (by omega)]
      simp
  · simp only [hlt, decide_false, Bool.false_eq_true, if_false, Rounds, fn2]
    rw [show x3.length - x2.toNat = 0 by omega, show x2.toNat = x3.length by omega]
    simp [markK, markL]
theorem eq (x0 : List Int) (x1 : Int) (hw : wf x0 x1) : raw x0 x1 = some (((laws_markByteS x0 x1).1, ()), ((laws_markByteS x0 x1).2, ())) := by
  have h1 : x0.length ≤ maxLen := hw.1.1
  unfold raw laws_markByteS
  have hpre : pre2 (x1, ((0 : Int), (x0, ()))) = true := by simp [pre2, h1]
  simp [hpre, fn2]
end laws_markByteS

def laws_markDisk (d : Disk) (k : Int) : Disk × Int := ((markL d.1.length k, d.2), markK d.1.length k)
namespace laws_markDisk
abbrev wf (x0 : ((List Int) × (Int × Unit))) (x1 : Int) : Prop := wfA [(.mut (.pair (.sl 0 (.int .u8)) (.pair (.int .i64) .unit))), (.val (.int .i64) .f)] (x0, (x1, ()))
def raw (x0 : ((List Int) × (Int × Unit))) (x1 : Int) : Option ((((List Int) × (Int × Unit)) × Unit) × (Int × Unit)) :=
 some ((((laws_markByteS x0.1 x1).1, x0.2), ()), ((laws_markByteS x0.1 x1).2, ()))
theorem eq (x0 : Disk) (x1 : Int) (_ : wf x0 x1) : raw x0 x1 = some (((laws_markDisk x0 x1).1, ()), ((laws_markDisk x0 x1).2, ())) := rfl
end laws_markDisk

def laws_heldByteS (xs : List Int) (k : Int) : Int := if xs = markL xs.length k then markK xs.length k else -1
namespace laws_heldByteS
abbrev S := List Int × (Int × (Int × Unit))
def pre2 : S → Bool := fun s => decide (s.1.length ≤ maxLen) && decide (0 ≤ s.2.2.1) && decide (s.2.2.1.toNat ≤ s.1.length)
def fn2 : S → (Int × Unit) ⊕ (Int × Unit) := fun s => if s.1.drop s.2.2.1.toNat = markL (s.1.length - s.2.2.1.toNat) s.2.1 then .inr (markK (s.1.length - s.2.2.1.toNat) s.2.1, ()) else .inl (-1, ())
def mu2 : S → Nat := fun s => s.1.length - s.2.2.1.toNat
def raw2 (x1 : (List Int)) (x2 : Int) (x3 : Int) : Option (((List Int) × (Int × (Int × Unit))) ⊕ ((Int × Unit) ⊕ (Int × Unit))) :=
 if (decide (x3 < ((List.length x1 : Nat) : Int))) = true then
  if (decide ((0 : Int) ≤ x3)) = true then
   if (decide (x3 < ((List.length x1 : Nat) : Int))) = true then
    if (!(decide ((List.getD x1 (Int.toNat x3) (0 : Int)) = (IntKind.wrap .u8 x2)))) = true then
     some (.inr (.inl ((-1 : Int), ())))
    else
     some (.inl (x1, ((IntKind.wrap .i64 (x2 + (1 : Int))), ((IntKind.wrap .i64 (x3 + (1 : Int))), ()))))
   else
    none
  else
   none
 else
  some (.inr (.inr (x2, ())))
abbrev wf (x0 : (List Int)) (x1 : Int) : Prop := wfA [(.val (.sl 0 (.int .u8)) .f), (.val (.int .i64) .f)] (x0, (x1, ()))
def raw (x0 : (List Int)) (x1 : Int) : Option (Unit × (Int × Unit)) :=
 if (laws_heldByteS.pre2 (x0, (x1, ((0 : Int), ())))) = true then
  match (laws_heldByteS.fn2 (x0, (x1, ((0 : Int), ())))) with
  | .inl y =>
   some ((), (y.1, ()))
  | .inr y =>
   some ((), (y.1, ()))
 else
  none
theorem ok2 (x1 : List Int) (x2 x3 : Int) (hp : pre2 (x1, (x2, (x3, ()))) = true) : Rounds pre2 mu2 fn2 (x1, (x2, (x3, ()))) (raw2 x1 x2 x3) := by
  simp only [pre2, Bool.and_eq_true, decide_eq_true_eq] at hp
  have hM := maxLen_eq
  obtain ⟨⟨h1, h2⟩, h3⟩ := hp
  unfold raw2
  by_cases hlt : x3 < (x1.length : Int)
  · have hn : x3.toNat < x1.length := by omega
    simp only [hlt, h2, decide_true, if_true, w64 (n := x3 + 1) (by omega) (by omega)]
    have e1 := List.drop_eq_getElem_cons hn
    have e2 : x1.length - x3.toNat = (x1.length - (x3.toNat + 1)) + 1 := by omega
    rw [getD_get hn]
    by_cases he : x1[x3.toNat] = IntKind.wrap .u8 x2
    · simp only [he, decide_true, Bool.not_true, Bool.false_eq_true, if_false, Rounds]
      refine ⟨?_, ?_, ?_⟩
      · simp only [pre2, Bool.and_eq_true, decide_eq_true_eq]
        exact ⟨⟨h1, by omega⟩, by omega⟩
      · simp only [mu2]; omega
      · simp only [fn2, show (x3 + 1).toNat = x3.toNat + 1 by omega, e1, e2, he, markL, markK, List.cons.injEq, true_and]
    · simp only [he, decide_false, Bool.not_false, if_true, Rounds, fn2, e1, e2, markL, List.cons.injEq, false_and, if_false]
  · simp only [hlt, decide_false, Bool.false_eq_true, if_false, Rounds, fn2]
    rw [List.drop_eq_nil_of_le (by omega), show x1.length - x3.toNat = 0 by omega]
    simp [markK, markL]
theorem eq (x0 : List Int) (x1 : Int) (hw : wf x0 x1) : raw x0 x1 = some ((), (laws_heldByteS x0 x1, ())) := by
  have h1 : x0.length ≤ maxLen := hw.1.1
  unfold raw laws_heldByteS
  have hpre : pre2 (x0, (x1, ((0 : Int), ()))) = true := by simp [pre2, h1]
  simp only [hpre, if_true, fn2, Int.toNat_zero, List.drop_zero, Nat.sub_zero]
  by_cases he : x0 = markL x0.length x1
  · rw [if_pos he, if_pos he]
  · rw [if_neg he, if_neg he]
end laws_heldByteS

def laws_heldDisk (d : Disk) (k : Int) : Int := let r := laws_heldByteS d.1 k; if r < 0 then -1 else r
namespace laws_heldDisk
abbrev wf (x0 : ((List Int) × (Int × Unit))) (x1 : Int) : Prop := wfA [(.val (.pair (.sl 0 (.int .u8)) (.pair (.int .i64) .unit)) .f), (.val (.int .i64) .f)] (x0, (x1, ()))
def raw (x0 : ((List Int) × (Int × Unit))) (x1 : Int) : Option (Unit × (Int × Unit)) :=
 if (decide ((laws_heldByteS x0.1 x1) < (0 : Int))) = true then
  some ((), ((-1 : Int), ()))
 else
  some ((), ((laws_heldByteS x0.1 x1), ()))
theorem eq (x0 : Disk) (x1 : Int) (_ : wf x0 x1) : raw x0 x1 = some ((), (laws_heldDisk x0 x1, ())) := by
  unfold raw laws_heldDisk
  by_cases h : laws_heldByteS x0.1 x1 < 0 <;> simp [h]
end laws_heldDisk

def DiskOk (d : Disk) : Bool := decide ((d.1.length : Int) ≤ 80000) && (decide (0 ≤ d.2.1) && decide (d.2.1 ≤ d.1.length))
abbrev impl_DiskOk := DiskOk
abbrev spec_DiskOk := DiskOk
namespace impl_DiskOk
abbrev wf (x0 : ((List Int) × (Int × Unit))) : Prop := wfA [(.val (.pair (.sl 0 (.int .u8)) (.pair (.int .i64) .unit)) .f)] (x0, ())
def raw (x0 : ((List Int) × (Int × Unit))) : Option (Unit × (Bool × Unit)) :=
 if (decide (((List.length x0.1 : Nat) : Int) ≤ (80000 : Int))) = true then
  some ((), ((impl_within x0.2.1 (0 : Int) ((List.length x0.1 : Nat) : Int)), ()))
 else
  some ((), (false, ()))
theorem eq (x0 : Disk) (_ : wf x0) : raw x0 = some ((), (impl_DiskOk x0, ())) := by
  unfold raw impl_DiskOk DiskOk impl_within
  by_cases h : (x0.1.length : Int) ≤ 80000 <;> simp [h]
end impl_DiskOk
namespace spec_DiskOk
abbrev wf (x0 : ((List Int) × (Int × Unit))) : Prop := wfA [(.val (.pair (.sl 0 (.int .u8)) (.pair (.int .i64) .unit)) .f)] (x0, ())
def raw (x0 : ((List Int) × (Int × Unit))) : Option (Unit × (Bool × Unit)) :=
 if (decide (((List.length x0.1 : Nat) : Int) ≤ (80000 : Int))) = true then
  some ((), ((spec_l1In x0.2.1 (0 : Int) ((List.length x0.1 : Nat) : Int)), ()))
 else
  some ((), (false, ()))
theorem eq (x0 : Disk) (_ : wf x0) : raw x0 = some ((), (spec_DiskOk x0, ())) := by
  unfold raw spec_DiskOk DiskOk spec_l1In
  by_cases h : (x0.1.length : Int) ≤ 80000 <;> simp [h]
end spec_DiskOk

def impl_copyDisk (d : Disk) : Disk := d
namespace impl_copyDisk
def pre (d : Disk) : Bool := small d.1
abbrev wf (x0 : ((List Int) × (Int × Unit))) : Prop := wfA [(.val (.pair (.sl 0 (.int .u8)) (.pair (.int .i64) .unit)) .f)] (x0, ())
def raw (x0 : ((List Int) × (Int × Unit))) : Option (Unit × (((List Int) × (Int × Unit)) × Unit)) :=
 if (decide (List.length ([] : List Int) + List.length x0.1 ≤ lim)) = true then
  some ((), (((List.append ([] : List Int) x0.1), x0.2), ()))
 else
  none
theorem eq (x0 : Disk) (_ : wf x0) (hp : pre x0 = true) : raw x0 = some ((), (impl_copyDisk x0, ())) := by
  rw [pre, small_iff] at hp
  unfold raw
  rw [if_pos (by simp only [List.length_nil, decide_eq_true_eq, lim]; omega)]; rfl
end impl_copyDisk

def spec_l10Copy (d : Disk) : Disk := d
namespace spec_l10Copy
def pre (d : Disk) : Bool := small d.1
abbrev wf (x0 : ((List Int) × (Int × Unit))) : Prop := wfA [(.val (.pair (.sl 0 (.int .u8)) (.pair (.int .i64) .unit)) .f)] (x0, ())
def raw (x0 : ((List Int) × (Int × Unit))) : Option (Unit × (((List Int) × (Int × Unit)) × Unit)) :=
 if (decide (List.length ([] : List Int) + List.length x0.1 ≤ lim)) = true then
  some ((), (((List.append ([] : List Int) x0.1), (x0.2.1, ())), ()))
 else
  none
theorem eq (x0 : Disk) (_ : wf x0) (hp : pre x0 = true) : raw x0 = some ((), (spec_l10Copy x0, ())) := by
  rw [pre, small_iff] at hp
  unfold raw
  rw [if_pos (by simp only [List.length_nil, decide_eq_true_eq, lim]; omega)]; rfl
end spec_l10Copy

def Sync (d : Disk) : Disk := if DiskOk d = true then (d.1, ((d.1.length : Int), ())) else d
abbrev impl_Sync := Sync
abbrev spec_Sync := Sync
namespace impl_Sync
def pre (d : Disk) : Bool := small d.1
abbrev wf (x0 : ((List Int) × (Int × Unit))) : Prop := wfA [(.val (.pair (.sl 0 (.int .u8)) (.pair (.int .i64) .unit)) .f)] (x0, ())
def raw (x0 : ((List Int) × (Int × Unit))) : Option (Unit × (((List Int) × (Int × Unit)) × Unit)) :=
 if (impl_copyDisk.pre x0) = true then
  if (impl_DiskOk x0) = true then
   some ((), (((impl_copyDisk x0).1, (((List.length (impl_copyDisk x0).1 : Nat) : Int), (impl_copyDisk x0).2.2)), ()))
  else
   some ((), (((impl_copyDisk x0).1, (impl_copyDisk x0).2), ()))
 else
  none
theorem eq (x0 : Disk) (_ : wf x0) (hp : pre x0 = true) : raw x0 = some ((), (impl_Sync x0, ())) := by
  unfold raw impl_Sync Sync impl_copyDisk
  rw [if_pos (show impl_copyDisk.pre x0 = true from hp)]
  by_cases h : DiskOk x0 = true <;> simp [h]
end impl_Sync
namespace spec_Sync
def pre (d : Disk) : Bool := small d.1
abbrev wf (x0 : ((List Int) × (Int × Unit))) : Prop := wfA [(.val (.pair (.sl 0 (.int .u8)) (.pair (.int .i64) .unit)) .f)] (x0, ())
def raw (x0 : ((List Int) × (Int × Unit))) : Option (Unit × (((List Int) × (Int × Unit)) × Unit)) :=
 if (spec_l10Copy.pre x0) = true then
  if (spec_DiskOk x0) = true then
   some ((), (((spec_l10Copy x0).1, (((List.length x0.1 : Nat) : Int), (spec_l10Copy x0).2.2)), ()))
  else
   some ((), (((spec_l10Copy x0).1, (spec_l10Copy x0).2), ()))
 else
  none
theorem eq (x0 : Disk) (_ : wf x0) (hp : pre x0 = true) : raw x0 = some ((), (spec_Sync x0, ())) := by
  unfold raw spec_Sync Sync spec_l10Copy
  rw [if_pos (show spec_l10Copy.pre x0 = true from hp)]
  by_cases h : DiskOk x0 = true <;> simp [h]
end spec_Sync

def Append (d : Disk) (b : List Int) : Disk × Bool := if DiskOk d = true ∧ d.1.length + b.length ≤ 80000 then ((d.1 ++ b, d.2), true) else (d, false)
abbrev impl_Append := Append
abbrev spec_Append := Append
namespace impl_Append
def pre (d : Disk) (b : List Int) : Bool := small d.1 && small b
abbrev wf (x0 : ((List Int) × (Int × Unit))) (x1 : (List Int)) : Prop := wfA [(.val (.pair (.sl 0 (.int .u8)) (.pair (.int .i64) .unit)) .f), (.val (.sl 0 (.int .u8)) .f)] (x0, (x1, ()))
def raw (x0 : ((List Int) × (Int × Unit))) (x1 : (List Int)) : Option (Unit × (((List Int) × (Int × Unit)) × (Bool × Unit))) :=
 if (impl_copyDisk.pre x0) = true then
  if (decide (List.length (impl_copyDisk x0).1 + List.length x1 ≤ lim)) = true then
   if (!(impl_DiskOk x0)) = true then
    if (impl_copyDisk.pre x0) = true then
     some ((), (((impl_copyDisk x0).1, (impl_copyDisk x0).2), (false, ())))
    else
     none
   else
    if (!(impl_DiskOk ((List.append (impl_copyDisk x0).1 x1), (impl_copyDisk x0).2))) = true then
     if (impl_copyDisk.pre x0) = true then
      some ((), (((impl_copyDisk x0).1, (impl_copyDisk x0).2), (false, ())))
     else
      none
    else
     some ((), (((List.append (impl_copyDisk x0).1 x1), (impl_copyDisk x0).2), (true, ())))
  else
   none
 else
  none
theorem eq (x0 : Disk) (x1 : List Int) (_ : wf x0 x1) (hp : pre x0 x1 = true) : raw x0 x1 = some ((), ((impl_Append x0 x1).1, ((impl_Append x0 x1).2, ()))) := by
  simp only [pre, Bool.and_eq_true] at hp
  have h1 := small_iff.1 hp.1
  have h2 := small_iff.1 hp.2
  have hc : impl_copyDisk.pre x0 = true := hp.1
  unfold raw impl_Append Append impl_copyDisk
  simp only [hc, if_true]
  rw [if_pos (by simp only [decide_eq_true_eq, lim]; omega)]
  by_cases h : DiskOk x0 = true
  · by_cases hb : x0.1.length + x1.length ≤ 80000
    · have : DiskOk (x0.1 ++ x1, x0.2) = true := by
        simp only [DiskOk, Bool.and_eq_true, decide_eq_true_eq, List.length_append] at h ⊢
        push_cast; omega
      simp [h, hb, this]
    · have : DiskOk (x0.1 ++ x1, x0.2) = false := by
        simp only [DiskOk, Bool.and_eq_false_iff, decide_eq_false_iff_not, List.length_append]
        left; push_cast; omega
      simp [h, hb, this]
  · simp [h]
end impl_Append
namespace spec_Append
def pre (d : Disk) (b : List Int) : Bool := small d.1 && small b
abbrev wf (x0 : ((List Int) × (Int × Unit))) (x1 : (List Int)) : Prop := wfA [(.val (.pair (.sl 0 (.int .u8)) (.pair (.int .i64) .unit)) .f), (.val (.sl 0 (.int .u8)) .f)] (x0, (x1, ()))
def raw (x0 : ((List Int) × (Int × Unit))) (x1 : (List Int)) : Option (Unit × (((List Int) × (Int × Unit)) × (Bool × Unit))) :=
 if (spec_l10Copy.pre x0) = true then
  if (!(spec_DiskOk x0)) = true then
   some ((), (((spec_l10Copy x0).1, (spec_l10Copy x0).2), (false, ())))
  else
   if (decide ((IntKind.wrap .i64 ((80000 : Int) - ((List.length x0.1 : Nat) : Int))) < ((List.length x1 : Nat) : Int))) = true then
    some ((), (((spec_l10Copy x0).1, (spec_l10Copy x0).2), (false, ())))
   else
    if (decide (List.length (spec_l10Copy x0).1 + List.length x1 ≤ lim)) = true then
     some ((), (((List.append (spec_l10Copy x0).1 x1), (spec_l10Copy x0).2), (true, ())))
    else
     none
 else
  none
theorem eq (x0 : Disk) (x1 : List Int) (_ : wf x0 x1) (hp : pre x0 x1 = true) : raw x0 x1 = some ((), ((spec_Append x0 x1).1, ((spec_Append x0 x1).2, ()))) := by
  simp only [pre, Bool.and_eq_true] at hp
  have h1 := small_iff.1 hp.1
  have h2 := small_iff.1 hp.2
  have hc : spec_l10Copy.pre x0 = true := hp.1
  unfold raw spec_Append Append spec_l10Copy
  simp only [hc, if_true]
  by_cases h : DiskOk x0 = true
  · rw [w64 (by omega) (by omega)]
    by_cases hb : x0.1.length + x1.length ≤ 80000
    · have : ¬ (80000 - (x0.1.length : Int) < (x1.length : Int)) := by omega
      have h3 : x0.1.length + x1.length ≤ lim := by simp only [lim]; omega
      simp [h, hb, this, h3]
    · have : 80000 - (x0.1.length : Int) < (x1.length : Int) := by omega
      simp [h, hb, this]
  · simp [h]
end spec_Append

def Fall (d : Disk) (keep : Int) : Disk := if DiskOk d = true then (d.1.take (d.2.1 + min (max keep 0) (d.1.length - d.2.1)).toNat, (d.2.1 + min (max keep 0) (d.1.length - d.2.1), ())) else d
abbrev impl_Fall := Fall
abbrev spec_Fall := Fall
namespace impl_Fall
def pre (d : Disk) (_ : Int) : Bool := small d.1
abbrev wf (x0 : ((List Int) × (Int × Unit))) (x1 : Int) : Prop := wfA [(.val (.pair (.sl 0 (.int .u8)) (.pair (.int .i64) .unit)) .f), (.val (.int .i64) .f)] (x0, (x1, ()))
def raw (x0 : ((List Int) × (Int × Unit))) (x1 : Int) : Option (Unit × (((List Int) × (Int × Unit)) × Unit)) :=
 if (impl_copyDisk.pre x0) = true then
  if (!(impl_DiskOk x0)) = true then
   some ((), (((impl_copyDisk x0).1, (impl_copyDisk x0).2), ()))
  else
   if (decide ((0 : Int) ≤ (0 : Int))) = true then
    if (decide ((0 : Int) ≤ (IntKind.wrap .i64 (x0.2.1 + (if (decide ((IntKind.wrap .i64 (((List.length x0.1 : Nat) : Int) - x0.2.1)) < (if (decide (x1 < (0 : Int))) = true then (0 : Int) else x1))) = true then (IntKind.wrap .i64 (((List.length x0.1 : Nat) : Int) - x0.2.1)) else (if (decide (x1 < (0 : Int))) = true then (0 : Int) else x1)))))) = true then
     if (decide ((IntKind.wrap .i64 (x0.2.1 + (if (decide ((IntKind.wrap .i64 (((List.length x0.1 : Nat) : Int) - x0.2.1)) < (if (decide (x1 < (0 : Int))) = true then (0 : Int) else x1))) = true then (IntKind.wrap .i64 (((List.length x0.1 : Nat) : Int) - x0.2.1)) else (if (decide (x1 < (0 : Int))) = true then (0 : Int) else x1)))) ≤ (IntKind.wrap .i64 (x0.2.1 + (if (decide ((IntKind.wrap .i64 (((List.length x0.1 : Nat) : Int) - x0.2.1)) < (if (decide (x1 < (0 : Int))) = true then (0 : Int) else x1))) = true then (IntKind.wrap .i64 (((List.length x0.1 : Nat) : Int) - x0.2.1)) else (if (decide (x1 < (0 : Int))) = true then (0 : Int) else x1)))))) = true then
      if (decide ((IntKind.wrap .i64 (x0.2.1 + (if (decide ((IntKind.wrap .i64 (((List.length x0.1 : Nat) : Int) - x0.2.1)) < (if (decide (x1 < (0 : Int))) = true then (0 : Int) else x1))) = true then (IntKind.wrap .i64 (((List.length x0.1 : Nat) : Int) - x0.2.1)) else (if (decide (x1 < (0 : Int))) = true then (0 : Int) else x1)))) ≤ ((List.length (impl_copyDisk x0).1 : Nat) : Int))) = true then
       some ((), (((dropTake (Int.toNat (0 : Int)) (Int.toNat (IntKind.wrap .i64 (x0.2.1 + (if (decide ((IntKind.wrap .i64 (((List.length x0.1 : Nat) : Int) - x0.2.1)) < (if (decide (x1 < (0 : Int))) = true then (0 : Int) else x1))) = true then (IntKind.wrap .i64 (((List.length x0.1 : Nat) : Int) - x0.2.1)) else (if (decide (x1 < (0 : Int))) = true then (0 : Int) else x1))))) (impl_copyDisk x0).1), ((IntKind.wrap .i64 (x0.2.1 + (if (decide ((IntKind.wrap .i64 (((List.length x0.1 : Nat) : Int) - x0.2.1)) < (if (decide (x1 < (0 : Int))) = true then (0 : Int) else x1))) = true then (IntKind.wrap .i64 (((List.length x0.1 : Nat) : Int) - x0.2.1)) else (if (decide (x1 < (0 : Int))) = true then (0 : Int) else x1)))), (impl_copyDisk x0).2.2)), ()))
      else
       none
     else
      none
    else
     none
   else
    none
 else
  none
theorem eq (x0 : Disk) (x1 : Int) (_ : wf x0 x1) (hp : pre x0 x1 = true) : raw x0 x1 = some ((), (impl_Fall x0 x1, ())) := by
  have h1 := small_iff.1 hp
  have hc : impl_copyDisk.pre x0 = true := hp
  unfold raw impl_Fall Fall impl_copyDisk
  simp only [hc, if_true]
  by_cases h : DiskOk x0 = true
  · have hd := h
    simp only [DiskOk, Bool.and_eq_true, decide_eq_true_eq] at hd
    obtain ⟨d1, d2, d3⟩ := hd
    have e1 : (if (decide (x1 < (0 : Int))) = true then (0 : Int) else x1) = max x1 0 := by
      by_cases hx : x1 < 0 <;> simp [hx] <;> omega
    rw [e1, w64 (n := (x0.1.length : Int) - x0.2.1) (by omega) (by omega)]
    have e2 : (if (decide ((x0.1.length : Int) - x0.2.1 < max x1 0)) = true then (x0.1.length : Int) - x0.2.1 else max x1 0) = min (max x1 0) ((x0.1.length : Int) - x0.2.1) := by
      by_cases hx : (x0.1.length : Int) - x0.2.1 < max x1 0 <;> simp [hx] <;> omega
    rw [e2, w64 (by omega) (by omega)]
    have h4 : 0 ≤ x0.2.1 + min (max x1 0) ((x0.1.length : Int) - x0.2.1) := by omega
    have h5 : x0.2.1 + min (max x1 0) ((x0.1.length : Int) - x0.2.1) ≤ (x0.1.length : Int) := by omega
    simp [h, h4, h5, dropTake]
  · simp [h]
end impl_Fall
namespace spec_Fall
def pre (d : Disk) (_ : Int) : Bool := small d.1
abbrev wf (x0 : ((List Int) × (Int × Unit))) (x1 : Int) : Prop := wfA [(.val (.pair (.sl 0 (.int .u8)) (.pair (.int .i64) .unit)) .f), (.val (.int .i64) .f)] (x0, (x1, ()))
def raw (x0 : ((List Int) × (Int × Unit))) (x1 : Int) : Option (Unit × (((List Int) × (Int × Unit)) × Unit)) :=
 if (!(spec_DiskOk x0)) = true then
  if (spec_l10Copy.pre x0) = true then
   some ((), (((spec_l10Copy x0).1, (spec_l10Copy x0).2), ()))
  else
   none
 else
  if (decide ((0 : Int) ≤ (0 : Int))) = true then
   if (decide ((0 : Int) ≤ (IntKind.wrap .i64 (x0.2.1 + (spec_l1Max (0 : Int) (spec_l1Min x1 (IntKind.wrap .i64 (((List.length x0.1 : Nat) : Int) - x0.2.1)))))))) = true then
    if (decide ((IntKind.wrap .i64 (x0.2.1 + (spec_l1Max (0 : Int) (spec_l1Min x1 (IntKind.wrap .i64 (((List.length x0.1 : Nat) : Int) - x0.2.1)))))) ≤ ((List.length x0.1 : Nat) : Int))) = true then
     if (decide (List.length ([] : List Int) + List.length (dropTake (Int.toNat (0 : Int)) (Int.toNat (IntKind.wrap .i64 (x0.2.1 + (spec_l1Max (0 : Int) (spec_l1Min x1 (IntKind.wrap .i64 (((List.length x0.1 : Nat) : Int) - x0.2.1))))))) x0.1) ≤ lim)) = true then
      some ((), (((List.append ([] : List Int) (dropTake (Int.toNat (0 : Int)) (Int.toNat (IntKind.wrap .i64 (x0.2.1 + (spec_l1Max (0 : Int) (spec_l1Min x1 (IntKind.wrap .i64 (((List.length x0.1 : Nat) : Int) - x0.2.1))))))) x0.1)), ((IntKind.wrap .i64 (x0.2.1 + (spec_l1Max (0 : Int) (spec_l1Min x1 (IntKind.wrap .i64 (((List.length x0.1 : Nat) : Int) - x0.2.1)))))), ())), ()))
     else
      none
    else
     none
   else
    none
  else
   none
theorem eq (x0 : Disk) (x1 : Int) (_ : wf x0 x1) (hp : pre x0 x1 = true) : raw x0 x1 = some ((), (spec_Fall x0 x1, ())) := by
  have h1 := small_iff.1 hp
  have hc : spec_l10Copy.pre x0 = true := hp
  unfold raw spec_Fall Fall spec_l10Copy spec_l1Max spec_l1Min
  simp only [hc, if_true]
  by_cases h : DiskOk x0 = true
  · have hd := h
    simp only [DiskOk, Bool.and_eq_true, decide_eq_true_eq] at hd
    obtain ⟨d1, d2, d3⟩ := hd
    rw [w64 (n := (x0.1.length : Int) - x0.2.1) (by omega) (by omega)]
    have e2 : max 0 (min x1 ((x0.1.length : Int) - x0.2.1)) = min (max x1 0) ((x0.1.length : Int) - x0.2.1) := by omega
    rw [e2, w64 (by omega) (by omega)]
    have h4 : 0 ≤ x0.2.1 + min (max x1 0) ((x0.1.length : Int) - x0.2.1) := by omega
    have h5 : x0.2.1 + min (max x1 0) ((x0.1.length : Int) - x0.2.1) ≤ (x0.1.length : Int) := by omega
    have h6 : (dropTake (Int.toNat 0) (x0.2.1 + min (max x1 0) ((x0.1.length : Int) - x0.2.1)).toNat x0.1).length ≤ lim := by
      simp only [dropTake, List.length_take, List.length_drop, lim]; omega
    simp only [h, Bool.not_true, Bool.false_eq_true, if_false, h4, h5, decide_true, if_true, List.length_nil, Nat.zero_add, h6, Int.le_refl]
    simp [dropTake]
  · simp [h]
end spec_Fall
end Go.Aw.Pl
