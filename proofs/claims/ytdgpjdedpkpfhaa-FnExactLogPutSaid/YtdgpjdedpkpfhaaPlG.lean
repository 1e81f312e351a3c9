/-
  Marks in entries; cutting a log.
-/
import Derived.Test.YtdgpjdedpkpfhaaPlF
namespace Go.Aw.Pl
open Go Go.Aw

theorem dropTake_len {α : Type} (lo hi : Nat) (xs : List α) : (dropTake lo hi xs).length ≤ xs.length := by
  simp only [dropTake, List.length_take, List.length_drop]; omega

def digs (k : Nat) (out : List UInt8) : List UInt8 :=
  if k = 0 then out else digs (k / 10) (List.append (strOf (IntKind.wrap .u8 (IntKind.wrap .i64 (48 + Int.tmod (k : Int) 10)) :: ([] : List Int))) out)
termination_by k
decreasing_by omega

theorem digs_len (k : Nat) (out : List UInt8) : (digs k out).length ≤ k + out.length := by
  induction k using Nat.strongRecOn generalizing out with
  | ind k ih =>
    rw [digs]
    split
    · omega
    · rename_i h
      refine Nat.le_trans (ih (k / 10) (by omega) _) ?_
      simp only [List.append_eq, List.length_append, strOf, List.map_cons, List.map_nil, List.length_cons, List.length_nil]
      omega

def laws_markText (k : Int) : List UInt8 := if k ≤ 0 then [109, 48] else 109 :: digs k.toNat []
namespace laws_markText
def pre (k : Int) : Bool := decide (k ≤ 2147483648)
abbrev S := Int × (List UInt8 × Unit)
def pre4 : S → Bool := fun s => decide (0 ≤ s.1) && decide (s.1.toNat + s.2.1.length ≤ 4294967295)
def fn4 : S → List UInt8 × Unit := fun s => (digs s.1.toNat s.2.1, ())
def mu4 : S → Nat := fun s => s.1.toNat
noncomputable def raw4 (x1 : Int) (x2 : (List UInt8)) : Option ((Int × ((List UInt8) × Unit)) ⊕ ((List UInt8) × Unit)) :=
 if (decide ((0 : Int) < x1)) = true then
  if (!(decide ((10 : Int) = (0 : Int)))) = true then
   if (decide (List.length (strOf ((IntKind.wrap .u8 (IntKind.wrap .i64 ((48 : Int) + (Int.tmod x1 (10 : Int))))) :: ([] : List Int))) + List.length x2 ≤ lim)) = true then
    if (!(decide ((10 : Int) = (0 : Int)))) = true then
     some (.inl ((IntKind.wrap .i64 (Int.tdiv x1 (10 : Int))), ((List.append (strOf ((IntKind.wrap .u8 (IntKind.wrap .i64 ((48 : Int) + (Int.tmod x1 (10 : Int))))) :: ([] : List Int))) x2), ())))
    else
     none
   else
    none
  else
   none
 else
  some (.inr (x2, ()))
abbrev wf (x0 : Int) : Prop := wfA [(.val (.int .i64) .f)] (x0, ())
noncomputable def raw (x0 : Int) : Option (Unit × ((List UInt8) × Unit)) :=
 if (decide (x0 ≤ (0 : Int))) = true then
  some ((), (((109 : UInt8) :: ((48 : UInt8) :: ([] : List UInt8))), ()))
 else
  if (laws_markText.pre4 (x0, (([] : List UInt8), ()))) = true then
   if (decide (List.length ((109 : UInt8) :: ([] : List UInt8)) + List.length (laws_markText.fn4 (x0, (([] : List UInt8), ()))).1 ≤ lim)) = true then
    some ((), ((List.append ((109 : UInt8) :: ([] : List UInt8)) (laws_markText.fn4 (x0, (([] : List UInt8), ()))).1), ()))
   else
    none
  else
   none
theorem ok4 (x1 : Int) (x2 : List UInt8) (hp : pre4 (x1, (x2, ())) = true) : Rounds pre4 mu4 fn4 (x1, (x2, ())) (raw4 x1 x2) := by
  simp only [pre4, Bool.and_eq_true, decide_eq_true_eq] at hp
  obtain ⟨h1, h2⟩ := hp
  unfold raw4
  by_cases h : 0 < x1
  · have hd : Int.tdiv x1 10 = x1 / 10 := Int.tdiv_eq_ediv_of_nonneg h1
    have hn : ((x1.toNat : Nat) : Int) = x1 := Int.toNat_of_nonneg h1
    rw [if_pos (by simp [h]), if_pos (by decide), if_pos (by simp only [strOf, List.map_cons, List.map_nil, List.length_cons, List.length_nil, decide_eq_true_eq, lim]; omega), if_pos (by decide), hd, w64 (by omega) (by omega)]
    simp only [Rounds]
    refine ⟨?_, by simp only [mu4]; omega, ?_⟩
    · simp only [pre4, Bool.and_eq_true, decide_eq_true_eq, List.append_eq, List.length_append, strOf, List.map_cons, List.map_nil, List.length_cons, List.length_nil]
      omega
    · simp only [fn4]
      conv => rhs; rw [digs, if_neg (by omega), hn]
      rw [show (x1 / 10).toNat = x1.toNat / 10 by omega]
  · rw [if_neg (by simp [h])]
    simp only [Rounds, fn4]
    rw [show x1.toNat = 0 by omega, digs, if_pos rfl]
theorem eq (x0 : Int) (_ : wf x0) (hp : pre x0 = true) : raw x0 = some ((), (laws_markText x0, ())) := by
  simp only [pre, decide_eq_true_eq] at hp
  unfold raw laws_markText
  by_cases h : x0 ≤ 0
  · simp [h]
  · have hl := digs_len x0.toNat []
    simp only [List.length_nil, Nat.add_zero] at hl
    have hl' : (fn4 (x0, (([] : List UInt8), ()))).1.length ≤ x0.toNat := hl
    rw [if_neg (by simp [h]), if_pos (show pre4 _ = true by simp only [pre4, Bool.and_eq_true, decide_eq_true_eq, List.length_nil]; omega), if_pos (by rw [decide_eq_true_eq]; simp only [List.length_cons, List.length_nil, lim]; omega), if_neg h]
    rfl
end laws_markText

def mE (k : Int) : Entry := (k, ((k + 1, (k + 1 + 1, (k + 1 + 1 + 1, (k + 1 + 1 + 1 + 1, (k + 1 + 1 + 1 + 1 + 1, (k + 1 + 1 + 1 + 1 + 1 + 1, (laws_markText (k + 1 + 1 + 1 + 1 + 1 + 1 + 1), (laws_markText (k + 1 + 1 + 1 + 1 + 1 + 1 + 1 + 1), ())))))))), ()))
def markEL : Nat → Int → List Entry
  | 0, _ => []
  | n + 1, k => mE k :: markEL n (k + 1 + 1 + 1 + 1 + 1 + 1 + 1 + 1 + 1)
theorem markEL_len : (n : Nat) → (k : Int) → (markEL n k).length = n
  | 0, _ => rfl
  | n + 1, k => by simp [markEL, markEL_len n]

def laws_markEntryS (xs : List Entry) (k : Int) : List Entry × Int := (markEL xs.length k, k + 9 * xs.length)
namespace laws_markEntryS
def pre (xs : List Entry) (k : Int) : Bool := small xs && (decide (0 ≤ k) && decide (k ≤ 1073741824))
abbrev S := Int × (Int × (List Entry × Unit))
def pre2 : S → Bool := fun s => decide (s.2.2.1.length ≤ 16777216) && (decide (0 ≤ s.2.1) && (decide (s.2.1.toNat ≤ s.2.2.1.length) && (decide (0 ≤ s.1) && decide (s.1 + 9 * (s.2.2.1.length - s.2.1) ≤ 2147483600))))
def fn2 : S → Int × (List Entry × Unit) := fun s => (s.1 + 9 * (s.2.2.1.length - s.2.1), (s.2.2.1.take s.2.1.toNat ++ markEL (s.2.2.1.length - s.2.1.toNat) s.1, ()))
def mu2 : S → Nat := fun s => s.2.2.1.length - s.2.1.toNat
noncomputable def raw2 (x1 : Int) (x2 : Int) (x3 : (List Entry)) : Option (Log ⊕ (Int × ((List Entry) × Unit))) :=
 if (decide (x2 < ((List.length x3 : Nat) : Int))) = true then
  if (decide ((0 : Int) ≤ x2)) = true then
   if (decide (x2 < ((List.length x3 : Nat) : Int))) = true then
    if (decide ((0 : Int) ≤ x2)) = true then
     if (decide (x2 < ((List.length (List.modify x3 (Int.toNat x2) (fun z => (x1, z.2))) : Nat) : Int))) = true then
      if (decide ((0 : Int) ≤ x2)) = true then
       if (decide (x2 < ((List.length (List.modify (List.modify x3 (Int.toNat x2) (fun z => (x1, z.2))) (Int.toNat x2) (fun z => (z.1, (((IntKind.wrap .i64 (x1 + (1 : Int))), z.2.1.2), z.2.2)))) : Nat) : Int))) = true then
        if (decide ((0 : Int) ≤ x2)) = true then
         if (decide (x2 < ((List.length (List.modify (List.modify (List.modify x3 (Int.toNat x2) (fun z => (x1, z.2))) (Int.toNat x2) (fun z => (z.1, (((IntKind.wrap .i64 (x1 + (1 : Int))), z.2.1.2), z.2.2)))) (Int.toNat x2) (fun z => (z.1, ((z.2.1.1, ((IntKind.wrap .i64 ((IntKind.wrap .i64 (x1 + (1 : Int))) + (1 : Int))), z.2.1.2.2)), z.2.2)))) : Nat) : Int))) = true then
          if (decide ((0 : Int) ≤ x2)) = true then
           if (decide (x2 < ((List.length (List.modify (List.modify (List.modify (List.modify x3 (Int.toNat x2) (fun z => (x1, z.2))) (Int.toNat x2) (fun z => (z.1, (((IntKind.wrap .i64 (x1 + (1 : Int))), z.2.1.2), z.2.2)))) (Int.toNat x2) (fun z => (z.1, ((z.2.1.1, ((IntKind.wrap .i64 ((IntKind.wrap .i64 (x1 + (1 : Int))) + (1 : Int))), z.2.1.2.2)), z.2.2)))) (Int.toNat x2) (fun z => (z.1, ((z.2.1.1, (z.2.1.2.1, ((IntKind.wrap .i64 ((IntKind.wrap .i64 ((IntKind.wrap .i64 (x1 + (1 : Int))) + (1 : Int))) + (1 : Int))), z.2.1.2.2.2))), z.2.2)))) : Nat) : Int))) = true then
            if (decide ((0 : Int) ≤ x2)) = true then
             if (decide (x2 < ((List.length (List.modify (List.modify (List.modify (List.modify (List.modify x3 (Int.toNat x2) (fun z => (x1, z.2))) (Int.toNat x2) (fun z => (z.1, (((IntKind.wrap .i64 (x1 + (1 : Int))), z.2.1.2), z.2.2)))) (Int.toNat x2) (fun z => (z.1, ((z.2.1.1, ((IntKind.wrap .i64 ((IntKind.wrap .i64 (x1 + (1 : Int))) + (1 : Int))), z.2.1.2.2)), z.2.2)))) (Int.toNat x2) (fun z => (z.1, ((z.2.1.1, (z.2.1.2.1, ((IntKind.wrap .i64 ((IntKind.wrap .i64 ((IntKind.wrap .i64 (x1 + (1 : Int))) + (1 : Int))) + (1 : Int))), z.2.1.2.2.2))), z.2.2)))) (Int.toNat x2) (fun z => (z.1, ((z.2.1.1, (z.2.1.2.1, (z.2.1.2.2.1, ((IntKind.wrap .i64 ((IntKind.wrap .i64 ((IntKind.wrap .i64 ((IntKind.wrap .i64 (x1 + (1 : Int))) + (1 : Int))) + (1 : Int))) + (1 : Int))), z.2.1.2.2.2.2)))), z.2.2)))) : Nat) : Int))) = true then
              if (decide ((0 : Int) ≤ x2)) = true then
               if (decide (x2 < ((List.length (List.modify (List.modify (List.modify (List.modify (List.modify (List.modify x3 (Int.toNat x2) (fun z => (x1, z.2))) (Int.toNat x2) (fun z => (z.1, (((IntKind.wrap .i64 (x1 + (1 : Int))), z.2.1.2), z.2.2)))) (Int.toNat x2) (fun z => (z.1, ((z.2.1.1, ((IntKind.wrap .i64 ((IntKind.wrap .i64 (x1 + (1 : Int))) + (1 : Int))), z.2.1.2.2)), z.2.2)))) (Int.toNat x2) (fun z => (z.1, ((z.2.1.1, (z.2.1.2.1, ((IntKind.wrap .i64 ((IntKind.wrap .i64 ((IntKind.wrap .i64 (x1 + (1 : Int))) + (1 : Int))) + (1 : Int))), z.2.1.2.2.2))), z.2.2)))) (Int.toNat x2) (fun z => (z.1, ((z.2.1.1, (z.2.1.2.1, (z.2.1.2.2.1, ((IntKind.wrap .i64 ((IntKind.wrap .i64 ((IntKind.wrap .i64 ((IntKind.wrap .i64 (x1 + (1 : Int))) + (1 : Int))) + (1 : Int))) + (1 : Int))), z.2.1.2.2.2.2)))), z.2.2)))) (Int.toNat x2) (fun z => (z.1, ((z.2.1.1, (z.2.1.2.1, (z.2.1.2.2.1, (z.2.1.2.2.2.1, ((IntKind.wrap .i64 ((IntKind.wrap .i64 ((IntKind.wrap .i64 ((IntKind.wrap .i64 ((IntKind.wrap .i64 (x1 + (1 : Int))) + (1 : Int))) + (1 : Int))) + (1 : Int))) + (1 : Int))), z.2.1.2.2.2.2.2))))), z.2.2)))) : Nat) : Int))) = true then
                if (laws_markText.pre (IntKind.wrap .i64 ((IntKind.wrap .i64 ((IntKind.wrap .i64 ((IntKind.wrap .i64 ((IntKind.wrap .i64 ((IntKind.wrap .i64 ((IntKind.wrap .i64 (x1 + (1 : Int))) + (1 : Int))) + (1 : Int))) + (1 : Int))) + (1 : Int))) + (1 : Int))) + (1 : Int)))) = true then
                 if (decide ((0 : Int) ≤ x2)) = true then
                  if (decide (x2 < ((List.length (List.modify (List.modify (List.modify (List.modify (List.modify (List.modify (List.modify x3 (Int.toNat x2) (fun z => (x1, z.2))) (Int.toNat x2) (fun z => (z.1, (((IntKind.wrap .i64 (x1 + (1 : Int))), z.2.1.2), z.2.2)))) (Int.toNat x2) (fun z => (z.1, ((z.2.1.1, ((IntKind.wrap .i64 ((IntKind.wrap .i64 (x1 + (1 : Int))) + (1 : Int))), z.2.1.2.2)), z.2.2)))) (Int.toNat x2) (fun z => (z.1, ((z.2.1.1, (z.2.1.2.1, ((IntKind.wrap .i64 ((IntKind.wrap .i64 ((IntKind.wrap .i64 (x1 + (1 : Int))) + (1 : Int))) + (1 : Int))), z.2.1.2.2.2))), z.2.2)))) (Int.toNat x2) (fun z => (z.1, ((z.2.1.1, (z.2.1.2.1, (z.2.1.2.2.1, ((IntKind.wrap .i64 ((IntKind.wrap .i64 ((IntKind.wrap .i64 ((IntKind.wrap .i64 (x1 + (1 : Int))) + (1 : Int))) + (1 : Int))) + (1 : Int))), z.2.1.2.2.2.2)))), z.2.2)))) (Int.toNat x2) (fun z => (z.1, ((z.2.1.1, (z.2.1.2.1, (z.2.1.2.2.1, (z.2.1.2.2.2.1, ((IntKind.wrap .i64 ((IntKind.wrap .i64 ((IntKind.wrap .i64 ((IntKind.wrap .i64 ((IntKind.wrap .i64 (x1 + (1 : Int))) + (1 : Int))) + (1 : Int))) + (1 : Int))) + (1 : Int))), z.2.1.2.2.2.2.2))))), z.2.2)))) (Int.toNat x2) (fun z => (z.1, ((z.2.1.1, (z.2.1.2.1, (z.2.1.2.2.1, (z.2.1.2.2.2.1, (z.2.1.2.2.2.2.1, ((IntKind.wrap .i64 ((IntKind.wrap .i64 ((IntKind.wrap .i64 ((IntKind.wrap .i64 ((IntKind.wrap .i64 ((IntKind.wrap .i64 (x1 + (1 : Int))) + (1 : Int))) + (1 : Int))) + (1 : Int))) + (1 : Int))) + (1 : Int))), z.2.1.2.2.2.2.2.2)))))), z.2.2)))) : Nat) : Int))) = true then
                   if (laws_markText.pre (IntKind.wrap .i64 ((IntKind.wrap .i64 ((IntKind.wrap .i64 ((IntKind.wrap .i64 ((IntKind.wrap .i64 ((IntKind.wrap .i64 ((IntKind.wrap .i64 ((IntKind.wrap .i64 (x1 + (1 : Int))) + (1 : Int))) + (1 : Int))) + (1 : Int))) + (1 : Int))) + (1 : Int))) + (1 : Int))) + (1 : Int)))) = true then
                    if (decide ((0 : Int) ≤ x2)) = true then
                     if (decide (x2 < ((List.length (List.modify (List.modify (List.modify (List.modify (List.modify (List.modify (List.modify (List.modify x3 (Int.toNat x2) (fun z => (x1, z.2))) (Int.toNat x2) (fun z => (z.1, (((IntKind.wrap .i64 (x1 + (1 : Int))), z.2.1.2), z.2.2)))) (Int.toNat x2) (fun z => (z.1, ((z.2.1.1, ((IntKind.wrap .i64 ((IntKind.wrap .i64 (x1 + (1 : Int))) + (1 : Int))), z.2.1.2.2)), z.2.2)))) (Int.toNat x2) (fun z => (z.1, ((z.2.1.1, (z.2.1.2.1, ((IntKind.wrap .i64 ((IntKind.wrap .i64 ((IntKind.wrap .i64 (x1 + (1 : Int))) + (1 : Int))) + (1 : Int))), z.2.1.2.2.2))), z.2.2)))) (Int.toNat x2) (fun z => (z.1, ((z.2.1.1, (z.2.1.2.1, (z.2.1.2.2.1, ((IntKind.wrap .i64 ((IntKind.wrap .i64 ((IntKind.wrap .i64 ((IntKind.wrap .i64 (x1 + (1 : Int))) + (1 : Int))) + (1 : Int))) + (1 : Int))), z.2.1.2.2.2.2)))), z.2.2)))) (Int.toNat x2) (fun z => (z.1, ((z.2.1.1, (z.2.1.2.1, (z.2.1.2.2.1, (z.2.1.2.2.2.1, ((IntKind.wrap .i64 ((IntKind.wrap .i64 ((IntKind.wrap .i64 ((IntKind.wrap .i64 ((IntKind.wrap .i64 (x1 + (1 : Int))) + (1 : Int))) + (1 : Int))) + (1 : Int))) + (1 : Int))), z.2.1.2.2.2.2.2))))), z.2.2)))) (Int.toNat x2) (fun z => (z.1, ((z.2.1.1, (z.2.1.2.1, (z.2.1.2.2.1, (z.2.1.2.2.2.1, (z.2.1.2.2.2.2.1, ((IntKind.wrap .i64 ((IntKind.wrap .i64 ((IntKind.wrap .i64 ((IntKind.wrap .i64 ((IntKind.wrap .i64 ((IntKind.wrap .i64 (x1 + (1 : Int))) + (1 : Int))) + (1 : Int))) + (1 : Int))) + (1 : Int))) + (1 : Int))), z.2.1.2.2.2.2.2.2)))))), z.2.2)))) (Int.toNat x2) (fun z => (z.1, ((z.2.1.1, (z.2.1.2.1, (z.2.1.2.2.1, (z.2.1.2.2.2.1, (z.2.1.2.2.2.2.1, (z.2.1.2.2.2.2.2.1, ((laws_markText (IntKind.wrap .i64 ((IntKind.wrap .i64 ((IntKind.wrap .i64 ((IntKind.wrap .i64 ((IntKind.wrap .i64 ((IntKind.wrap .i64 ((IntKind.wrap .i64 (x1 + (1 : Int))) + (1 : Int))) + (1 : Int))) + (1 : Int))) + (1 : Int))) + (1 : Int))) + (1 : Int)))), z.2.1.2.2.2.2.2.2.2))))))), z.2.2)))) : Nat) : Int))) = true then
                      some (.inl ((IntKind.wrap .i64 ((IntKind.wrap .i64 ((IntKind.wrap .i64 ((IntKind.wrap .i64 ((IntKind.wrap .i64 ((IntKind.wrap .i64 ((IntKind.wrap .i64 ((IntKind.wrap .i64 ((IntKind.wrap .i64 (x1 + (1 : Int))) + (1 : Int))) + (1 : Int))) + (1 : Int))) + (1 : Int))) + (1 : Int))) + (1 : Int))) + (1 : Int))) + (1 : Int))), ((IntKind.wrap .i64 (x2 + (1 : Int))), ((List.modify (List.modify (List.modify (List.modify (List.modify (List.modify (List.modify (List.modify (List.modify x3 (Int.toNat x2) (fun z => (x1, z.2))) (Int.toNat x2) (fun z => (z.1, (((IntKind.wrap .i64 (x1 + (1 : Int))), z.2.1.2), z.2.2)))) (Int.toNat x2) (fun z => (z.1, ((z.2.1.1, ((IntKind.wrap .i64 ((IntKind.wrap .i64 (x1 + (1 : Int))) + (1 : Int))), z.2.1.2.2)), z.2.2)))) (Int.toNat x2) (fun z => (z.1, ((z.2.1.1, (z.2.1.2.1, ((IntKind.wrap .i64 ((IntKind.wrap .i64 ((IntKind.wrap .i64 (x1 + (1 : Int))) + (1 : Int))) + (1 : Int))), z.2.1.2.2.2))), z.2.2)))) (Int.toNat x2) (fun z => (z.1, ((z.2.1.1, (z.2.1.2.1, (z.2.1.2.2.1, ((IntKind.wrap .i64 ((IntKind.wrap .i64 ((IntKind.wrap .i64 ((IntKind.wrap .i64 (x1 + (1 : Int))) + (1 : Int))) + (1 : Int))) + (1 : Int))), z.2.1.2.2.2.2)))), z.2.2)))) (Int.toNat x2) (fun z => (z.1, ((z.2.1.1, (z.2.1.2.1, (z.2.1.2.2.1, (z.2.1.2.2.2.1, ((IntKind.wrap .i64 ((IntKind.wrap .i64 ((IntKind.wrap .i64 ((IntKind.wrap .i64 ((IntKind.wrap .i64 (x1 + (1 : Int))) + (1 : Int))) + (1 : Int))) + (1 : Int))) + (1 : Int))), z.2.1.2.2.2.2.2))))), z.2.2)))) (Int.toNat x2) (fun z => (z.1, ((z.2.1.1, (z.2.1.2.1, (z.2.1.2.2.1, (z.2.1.2.2.2.1, (z.2.1.2.2.2.2.1, ((IntKind.wrap .i64 ((IntKind.wrap .i64 ((IntKind.wrap .i64 ((IntKind.wrap .i64 ((IntKind.wrap .i64 ((IntKind.wrap .i64 (x1 + (1 : Int))) + (1 : Int))) + (1 : Int))) + (1 : Int))) + (1 : Int))) + (1 : Int))), z.2.1.2.2.2.2.2.2)))))), z.2.2)))) (Int.toNat x2) (fun z => (z.1, ((z.2.1.1, (z.2.1.2.1, (z.2.1.2.2.1, (z.2.1.2.2.2.1, (z.2.1.2.2.2.2.1, (z.2.1.2.2.2.2.2.1, ((laws_markText (IntKind.wrap .i64 ((IntKind.wrap .i64 ((IntKind.wrap .i64 ((IntKind.wrap .i64 ((IntKind.wrap .i64 ((IntKind.wrap .i64 ((IntKind.wrap .i64 (x1 + (1 : Int))) + (1 : Int))) + (1 : Int))) + (1 : Int))) + (1 : Int))) + (1 : Int))) + (1 : Int)))), z.2.1.2.2.2.2.2.2.2))))))), z.2.2)))) (Int.toNat x2) (fun z => (z.1, ((z.2.1.1, (z.2.1.2.1, (z.2.1.2.2.1, (z.2.1.2.2.2.1, (z.2.1.2.2.2.2.1, (z.2.1.2.2.2.2.2.1, (z.2.1.2.2.2.2.2.2.1, ((laws_markText (IntKind.wrap .i64 ((IntKind.wrap .i64 ((IntKind.wrap .i64 ((IntKind.wrap .i64 ((IntKind.wrap .i64 ((IntKind.wrap .i64 ((IntKind.wrap .i64 ((IntKind.wrap .i64 (x1 + (1 : Int))) + (1 : Int))) + (1 : Int))) + (1 : Int))) + (1 : Int))) + (1 : Int))) + (1 : Int))) + (1 : Int)))), z.2.1.2.2.2.2.2.2.2.2)))))))), z.2.2)))), ()))))
                     else
                      none
                    else
                     none
                   else
                    none
                  else
                   none
                 else
                  none
                else
                 none
               else
                none
              else
               none
             else
              none
            else
             none
           else
            none
          else
           none
         else
          none
        else
         none
       else
        none
      else
       none
     else
      none
    else
     none
   else
    none
  else
   none
 else
  some (.inr (x1, (x3, ())))
abbrev wf (x0 : (List Entry)) (x1 : Int) : Prop := wfA [(.mut (.sl 0 (.pair (.int .i64) (.pair (.pair (.int .i64) (.pair (.int .i64) (.pair (.int .i64) (.pair (.int .i64) (.pair (.int .i64) (.pair (.int .i64) (.pair .str (.pair .str .unit)))))))) .unit)))), (.val (.int .i64) .f)] (x0, (x1, ()))
noncomputable def raw (x0 : (List Entry)) (x1 : Int) : Option (((List Entry) × Unit) × (Int × Unit)) :=
 if (laws_markEntryS.pre2 (x1, ((0 : Int), (x0, ())))) = true then
  some ((laws_markEntryS.fn2 (x1, ((0 : Int), (x0, ())))).2, ((laws_markEntryS.fn2 (x1, ((0 : Int), (x0, ())))).1, ()))
 else
  none
theorem ok2 (x1 x2 : Int) (x3 : List Entry) (hp : pre2 (x1, (x2, (x3, ()))) = true) : Rounds pre2 mu2 fn2 (x1, (x2, (x3, ()))) (raw2 x1 x2 x3) := by
  simp only [pre2, Bool.and_eq_true, decide_eq_true_eq] at hp
  obtain ⟨h1, h2, h3, h4, h5⟩ := hp
  unfold raw2
  by_cases hlt : x2 < (x3.length : Int)
  · have hn : x2.toNat < x3.length := by omega
    have w1 : IntKind.wrap .i64 (x1 + 1) = x1 + 1 := w64 (by omega) (by omega)
    have w2 : IntKind.wrap .i64 (x1 + 1 + 1) = x1 + 1 + 1 := w64 (by omega) (by omega)
    have w3 : IntKind.wrap .i64 (x1 + 1 + 1 + 1) = x1 + 1 + 1 + 1 := w64 (by omega) (by omega)
    have w4 : IntKind.wrap .i64 (x1 + 1 + 1 + 1 + 1) = x1 + 1 + 1 + 1 + 1 := w64 (by omega) (by omega)
    have w5 : IntKind.wrap .i64 (x1 + 1 + 1 + 1 + 1 + 1) = x1 + 1 + 1 + 1 + 1 + 1 := w64 (by omega) (by omega)
    have w6 : IntKind.wrap .i64 (x1 + 1 + 1 + 1 + 1 + 1 + 1) = x1 + 1 + 1 + 1 + 1 + 1 + 1 := w64 (by omega) (by omega)
    have w7 : IntKind.wrap .i64 (x1 + 1 + 1 + 1 + 1 + 1 + 1 + 1) = x1 + 1 + 1 + 1 + 1 + 1 + 1 + 1 := w64 (by omega) (by omega)
    have w8 : IntKind.wrap .i64 (x1 + 1 + 1 + 1 + 1 + 1 + 1 + 1 + 1) = x1 + 1 + 1 + 1 + 1 + 1 + 1 + 1 + 1 := w64 (by omega) (by omega)
    have w9 : IntKind.wrap .i64 (x1 + 1 + 1 + 1 + 1 + 1 + 1 + 1 + 1 + 1) = x1 + 1 + 1 + 1 + 1 + 1 + 1 + 1 + 1 + 1 := w64 (by omega) (by omega)
    have p7 : laws_markText.pre (x1 + 1 + 1 + 1 + 1 + 1 + 1 + 1) = true := by simp only [laws_markText.pre, decide_eq_true_eq]; omega
    have p8 : laws_markText.pre (x1 + 1 + 1 + 1 + 1 + 1 + 1 + 1 + 1) = true := by simp only [laws_markText.pre, decide_eq_true_eq]; omega
    simp only [List.length_modify, hlt, h2, decide_true, if_true, w1, w2, w3, w4, w5, w6, w7, w8, w9, p7, p8, w64 (n := x2 + 1) (by omega) (by omega)]
    simp only [List.modify_modify_eq]
    have hm := modify_const x3 x2.toNat (mE x1)
    refine (?_ : Rounds pre2 mu2 fn2 (x1, (x2, (x3, ()))) (some (.inl (x1 + 1 + 1 + 1 + 1 + 1 + 1 + 1 + 1 + 1, (x2 + 1, (x3.modify x2.toNat (fun _ => mE x1), ()))))))
    rw [hm]
    simp only [Rounds]
    refine ⟨?_, by simp only [mu2, List.length_set]; omega, ?_⟩
    · simp only [pre2, Bool.and_eq_true, decide_eq_true_eq, List.length_set]
      omega
    · simp only [fn2, List.length_set, show (x2 + 1).toNat = x2.toNat + 1 by omega]
      rw [show x3.length - x2.toNat = (x3.length - (x2.toNat + 1)) + 1 by omega]
      simp only [markEL]
      rw [List.take_add_one, List.take_set_of_le (by omega), List.getElem?_set_self (by omega)]
      refine Prod.ext (by show _ = _; omega) (Prod.ext ?_ rfl)
      simp
  · simp only [hlt, decide_false, Bool.false_eq_true, if_false, Rounds, fn2]
    rw [show x3.length - x2.toNat = 0 by omega, show x2.toNat = x3.length by omega]
    refine Prod.ext (by show _ = _; omega) (Prod.ext ?_ rfl)
    simp [markEL]
theorem eq (x0 : List Entry) (x1 : Int) (_ : wf x0 x1) (hp : pre x0 x1 = true) : raw x0 x1 = some (((laws_markEntryS x0 x1).1, ()), ((laws_markEntryS x0 x1).2, ())) := by
  simp only [pre, Bool.and_eq_true, decide_eq_true_eq, small_iff] at hp
  unfold raw laws_markEntryS
  rw [if_pos (show pre2 _ = true by simp only [pre2, Bool.and_eq_true, decide_eq_true_eq]; simp; omega)]
  simp [fn2]
end laws_markEntryS

def laws_markLog (x : Log) (k : Int) : Log × Int := ((x.1, (x.2.1, (markEL x.2.2.1.length k, ()))), k + 9 * x.2.2.1.length)
namespace laws_markLog
def pre (x : Log) (k : Int) : Bool := laws_markEntryS.pre x.2.2.1 k
abbrev wf (x0 : Log) (x1 : Int) : Prop := wfA [(.mut (.pair (.int .i64) (.pair (.int .i64) (.pair (.sl 0 (.pair (.int .i64) (.pair (.pair (.int .i64) (.pair (.int .i64) (.pair (.int .i64) (.pair (.int .i64) (.pair (.int .i64) (.pair (.int .i64) (.pair .str (.pair .str .unit)))))))) .unit))) .unit)))), (.val (.int .i64) .f)] (x0, (x1, ()))
noncomputable def raw (x0 : Log) (x1 : Int) : Option ((Log × Unit) × (Int × Unit)) :=
 if (laws_markEntryS.pre x0.2.2.1 x1) = true then
  some (((x0.1, (x0.2.1, ((laws_markEntryS x0.2.2.1 x1).1, x0.2.2.2))), ()), ((laws_markEntryS x0.2.2.1 x1).2, ()))
 else
  none
theorem eq (x0 : Log) (x1 : Int) (_ : wf x0 x1) (hp : pre x0 x1 = true) : raw x0 x1 = some (((laws_markLog x0 x1).1, ()), ((laws_markLog x0 x1).2, ())) := by
  unfold raw
  rw [if_pos (show laws_markEntryS.pre _ _ = true from hp)]
  rfl
end laws_markLog

open Classical in
noncomputable def laws_heldEntryS (xs : List Entry) (k : Int) : Int := if xs = markEL xs.length k then k + 9 * xs.length else -1
namespace laws_heldEntryS
def pre (xs : List Entry) (k : Int) : Bool := laws_markEntryS.pre xs k
abbrev S := List Entry × (Int × (Int × Unit))
def pre2 : S → Bool := fun s => decide (s.1.length ≤ 16777216) && (decide (0 ≤ s.2.2.1) && (decide (s.2.2.1.toNat ≤ s.1.length) && (decide (0 ≤ s.2.1) && decide (s.2.1 + 9 * (s.1.length - s.2.2.1) ≤ 2147483600))))
open Classical in
noncomputable def fn2 : S → (Int × Unit) ⊕ (Int × Unit) := fun s => if s.1.drop s.2.2.1.toNat = markEL (s.1.length - s.2.2.1.toNat) s.2.1 then .inr (s.2.1 + 9 * (s.1.length - s.2.2.1), ()) else .inl (-1, ())
def mu2 : S → Nat := fun s => s.1.length - s.2.2.1.toNat
noncomputable def raw2 (x1 : (List Entry)) (x2 : Int) (x3 : Int) : Option (((List Entry) × Mark) ⊕ ((Int × Unit) ⊕ (Int × Unit))) :=
 if (decide (x3 < ((List.length x1 : Nat) : Int))) = true then
  if (decide ((0 : Int) ≤ x3)) = true then
   if (decide (x3 < ((List.length x1 : Nat) : Int))) = true then
    if (!(decide ((List.getD x1 (Int.toNat x3) ((0 : Int), (((0 : Int), ((0 : Int), ((0 : Int), ((0 : Int), ((0 : Int), ((0 : Int), (([] : List UInt8), (([] : List UInt8), ())))))))), ()))).1 = x2))) = true then
     some (.inr (.inl ((-1 : Int), ())))
    else
     if (decide ((0 : Int) ≤ x3)) = true then
      if (decide (x3 < ((List.length x1 : Nat) : Int))) = true then
       if (!(decide ((List.getD x1 (Int.toNat x3) ((0 : Int), (((0 : Int), ((0 : Int), ((0 : Int), ((0 : Int), ((0 : Int), ((0 : Int), (([] : List UInt8), (([] : List UInt8), ())))))))), ()))).2.1.1 = (IntKind.wrap .i64 (x2 + (1 : Int)))))) = true then
        some (.inr (.inl ((-1 : Int), ())))
       else
        if (decide ((0 : Int) ≤ x3)) = true then
         if (decide (x3 < ((List.length x1 : Nat) : Int))) = true then
          if (!(decide ((List.getD x1 (Int.toNat x3) ((0 : Int), (((0 : Int), ((0 : Int), ((0 : Int), ((0 : Int), ((0 : Int), ((0 : Int), (([] : List UInt8), (([] : List UInt8), ())))))))), ()))).2.1.2.1 = (IntKind.wrap .i64 ((IntKind.wrap .i64 (x2 + (1 : Int))) + (1 : Int)))))) = true then
           some (.inr (.inl ((-1 : Int), ())))
          else
           if (decide ((0 : Int) ≤ x3)) = true then
            if (decide (x3 < ((List.length x1 : Nat) : Int))) = true then
             if (!(decide ((List.getD x1 (Int.toNat x3) ((0 : Int), (((0 : Int), ((0 : Int), ((0 : Int), ((0 : Int), ((0 : Int), ((0 : Int), (([] : List UInt8), (([] : List UInt8), ())))))))), ()))).2.1.2.2.1 = (IntKind.wrap .i64 ((IntKind.wrap .i64 ((IntKind.wrap .i64 (x2 + (1 : Int))) + (1 : Int))) + (1 : Int)))))) = true then
              some (.inr (.inl ((-1 : Int), ())))
             else
              if (decide ((0 : Int) ≤ x3)) = true then
               if (decide (x3 < ((List.length x1 : Nat) : Int))) = true then
                if (!(decide ((List.getD x1 (Int.toNat x3) ((0 : Int), (((0 : Int), ((0 : Int), ((0 : Int), ((0 : Int), ((0 : Int), ((0 : Int), (([] : List UInt8), (([] : List UInt8), ())))))))), ()))).2.1.2.2.2.1 = (IntKind.wrap .i64 ((IntKind.wrap .i64 ((IntKind.wrap .i64 ((IntKind.wrap .i64 (x2 + (1 : Int))) + (1 : Int))) + (1 : Int))) + (1 : Int)))))) = true then
                 some (.inr (.inl ((-1 : Int), ())))
                else
                 if (decide ((0 : Int) ≤ x3)) = true then
                  if (decide (x3 < ((List.length x1 : Nat) : Int))) = true then
                   if (!(decide ((List.getD x1 (Int.toNat x3) ((0 : Int), (((0 : Int), ((0 : Int), ((0 : Int), ((0 : Int), ((0 : Int), ((0 : Int), (([] : List UInt8), (([] : List UInt8), ())))))))), ()))).2.1.2.2.2.2.1 = (IntKind.wrap .i64 ((IntKind.wrap .i64 ((IntKind.wrap .i64 ((IntKind.wrap .i64 ((IntKind.wrap .i64 (x2 + (1 : Int))) + (1 : Int))) + (1 : Int))) + (1 : Int))) + (1 : Int)))))) = true then
                    some (.inr (.inl ((-1 : Int), ())))
                   else
                    if (decide ((0 : Int) ≤ x3)) = true then
                     if (decide (x3 < ((List.length x1 : Nat) : Int))) = true then
                      if (!(decide ((List.getD x1 (Int.toNat x3) ((0 : Int), (((0 : Int), ((0 : Int), ((0 : Int), ((0 : Int), ((0 : Int), ((0 : Int), (([] : List UInt8), (([] : List UInt8), ())))))))), ()))).2.1.2.2.2.2.2.1 = (IntKind.wrap .i64 ((IntKind.wrap .i64 ((IntKind.wrap .i64 ((IntKind.wrap .i64 ((IntKind.wrap .i64 ((IntKind.wrap .i64 (x2 + (1 : Int))) + (1 : Int))) + (1 : Int))) + (1 : Int))) + (1 : Int))) + (1 : Int)))))) = true then
                       some (.inr (.inl ((-1 : Int), ())))
                      else
                       if (decide ((0 : Int) ≤ x3)) = true then
                        if (decide (x3 < ((List.length x1 : Nat) : Int))) = true then
                         if (laws_markText.pre (IntKind.wrap .i64 ((IntKind.wrap .i64 ((IntKind.wrap .i64 ((IntKind.wrap .i64 ((IntKind.wrap .i64 ((IntKind.wrap .i64 ((IntKind.wrap .i64 (x2 + (1 : Int))) + (1 : Int))) + (1 : Int))) + (1 : Int))) + (1 : Int))) + (1 : Int))) + (1 : Int)))) = true then
                          if (!((List.getD x1 (Int.toNat x3) ((0 : Int), (((0 : Int), ((0 : Int), ((0 : Int), ((0 : Int), ((0 : Int), ((0 : Int), (([] : List UInt8), (([] : List UInt8), ())))))))), ()))).2.1.2.2.2.2.2.2.1 == (laws_markText (IntKind.wrap .i64 ((IntKind.wrap .i64 ((IntKind.wrap .i64 ((IntKind.wrap .i64 ((IntKind.wrap .i64 ((IntKind.wrap .i64 ((IntKind.wrap .i64 (x2 + (1 : Int))) + (1 : Int))) + (1 : Int))) + (1 : Int))) + (1 : Int))) + (1 : Int))) + (1 : Int)))))) = true then
                           some (.inr (.inl ((-1 : Int), ())))
                          else
                           if (decide ((0 : Int) ≤ x3)) = true then
                            if (decide (x3 < ((List.length x1 : Nat) : Int))) = true then
                             if (laws_markText.pre (IntKind.wrap .i64 ((IntKind.wrap .i64 ((IntKind.wrap .i64 ((IntKind.wrap .i64 ((IntKind.wrap .i64 ((IntKind.wrap .i64 ((IntKind.wrap .i64 ((IntKind.wrap .i64 (x2 + (1 : Int))) + (1 : Int))) + (1 : Int))) + (1 : Int))) + (1 : Int))) + (1 : Int))) + (1 : Int))) + (1 : Int)))) = true then
                              if (!((List.getD x1 (Int.toNat x3) ((0 : Int), (((0 : Int), ((0 : Int), ((0 : Int), ((0 : Int), ((0 : Int), ((0 : Int), (([] : List UInt8), (([] : List UInt8), ())))))))), ()))).2.1.2.2.2.2.2.2.2.1 == (laws_markText (IntKind.wrap .i64 ((IntKind.wrap .i64 ((IntKind.wrap .i64 ((IntKind.wrap .i64 ((IntKind.wrap .i64 ((IntKind.wrap .i64 ((IntKind.wrap .i64 ((IntKind.wrap .i64 (x2 + (1 : Int))) + (1 : Int))) + (1 : Int))) + (1 : Int))) + (1 : Int))) + (1 : Int))) + (1 : Int))) + (1 : Int)))))) = true then
                               some (.inr (.inl ((-1 : Int), ())))
                              else
                               some (.inl (x1, ((IntKind.wrap .i64 ((IntKind.wrap .i64 ((IntKind.wrap .i64 ((IntKind.wrap .i64 ((IntKind.wrap .i64 ((IntKind.wrap .i64 ((IntKind.wrap .i64 ((IntKind.wrap .i64 ((IntKind.wrap .i64 (x2 + (1 : Int))) + (1 : Int))) + (1 : Int))) + (1 : Int))) + (1 : Int))) + (1 : Int))) + (1 : Int))) + (1 : Int))) + (1 : Int))), ((IntKind.wrap .i64 (x3 + (1 : Int))), ()))))
                             else
                              none
                            else
                             none
                           else
                            none
                         else
                          none
                        else
                         none
                       else
                        none
                     else
                      none
                    else
                     none
                  else
                   none
                 else
                  none
               else
                none
              else
               none
            else
             none
           else
            none
         else
          none
        else
         none
      else
       none
     else
      none
   else
    none
  else
   none
 else
  some (.inr (.inr (x2, ())))
abbrev wf (x0 : (List Entry)) (x1 : Int) : Prop := wfA [(.val (.sl 0 (.pair (.int .i64) (.pair (.pair (.int .i64) (.pair (.int .i64) (.pair (.int .i64) (.pair (.int .i64) (.pair (.int .i64) (.pair (.int .i64) (.pair .str (.pair .str .unit)))))))) .unit))) .f), (.val (.int .i64) .f)] (x0, (x1, ()))
noncomputable def raw (x0 : (List Entry)) (x1 : Int) : Option (Unit × (Int × Unit)) :=
 if (laws_heldEntryS.pre2 (x0, (x1, ((0 : Int), ())))) = true then
  match (laws_heldEntryS.fn2 (x0, (x1, ((0 : Int), ())))) with
  | .inl y =>
   some ((), y)
  | .inr y =>
   some ((), y)
 else
  none
theorem ok2 (x1 : List Entry) (x2 x3 : Int) (hp : pre2 (x1, (x2, (x3, ()))) = true) : Rounds pre2 mu2 fn2 (x1, (x2, (x3, ()))) (raw2 x1 x2 x3) := by
  simp only [pre2, Bool.and_eq_true, decide_eq_true_eq] at hp
  obtain ⟨h1, h2, h3, h4, h5⟩ := hp
  unfold raw2
  by_cases hlt : x3 < (x1.length : Int)
  · have hn : x3.toNat < x1.length := by omega
    have e1 := List.drop_eq_getElem_cons hn
    have e2 : x1.length - x3.toNat = (x1.length - (x3.toNat + 1)) + 1 := by omega
    have w1 : IntKind.wrap .i64 (x2 + 1) = x2 + 1 := w64 (by omega) (by omega)
    have w2 : IntKind.wrap .i64 (x2 + 1 + 1) = x2 + 1 + 1 := w64 (by omega) (by omega)
    have w3 : IntKind.wrap .i64 (x2 + 1 + 1 + 1) = x2 + 1 + 1 + 1 := w64 (by omega) (by omega)
    have w4 : IntKind.wrap .i64 (x2 + 1 + 1 + 1 + 1) = x2 + 1 + 1 + 1 + 1 := w64 (by omega) (by omega)
    have w5 : IntKind.wrap .i64 (x2 + 1 + 1 + 1 + 1 + 1) = x2 + 1 + 1 + 1 + 1 + 1 := w64 (by omega) (by omega)
    have w6 : IntKind.wrap .i64 (x2 + 1 + 1 + 1 + 1 + 1 + 1) = x2 + 1 + 1 + 1 + 1 + 1 + 1 := w64 (by omega) (by omega)
    have w7 : IntKind.wrap .i64 (x2 + 1 + 1 + 1 + 1 + 1 + 1 + 1) = x2 + 1 + 1 + 1 + 1 + 1 + 1 + 1 := w64 (by omega) (by omega)
    have w8 : IntKind.wrap .i64 (x2 + 1 + 1 + 1 + 1 + 1 + 1 + 1 + 1) = x2 + 1 + 1 + 1 + 1 + 1 + 1 + 1 + 1 := w64 (by omega) (by omega)
    have w9 : IntKind.wrap .i64 (x2 + 1 + 1 + 1 + 1 + 1 + 1 + 1 + 1 + 1) = x2 + 1 + 1 + 1 + 1 + 1 + 1 + 1 + 1 + 1 := w64 (by omega) (by omega)
    have p7 : laws_markText.pre (x2 + 1 + 1 + 1 + 1 + 1 + 1 + 1) = true := by simp only [laws_markText.pre, decide_eq_true_eq]; omega
    have p8 : laws_markText.pre (x2 + 1 + 1 + 1 + 1 + 1 + 1 + 1 + 1) = true := by simp only [laws_markText.pre, decide_eq_true_eq]; omega
    simp only [hlt, h2, decide_true, if_true, w1, w2, w3, w4, w5, w6, w7, w8, w9, p7, p8, w64 (n := x3 + 1) (by omega) (by omega), getD_get hn]
    generalize x1[x3.toNat] = e at e1
    have good : e = mE x2 → Rounds pre2 mu2 fn2 (x1, (x2, (x3, ()))) (some (.inl (x1, (x2 + 1 + 1 + 1 + 1 + 1 + 1 + 1 + 1 + 1, (x3 + 1, ()))))) := by
      intro he
      simp only [Rounds]
      refine ⟨?_, by simp only [mu2]; omega, ?_⟩
      · simp only [pre2, Bool.and_eq_true, decide_eq_true_eq]
        omega
      · have hi : x1.drop (x3 + 1).toNat = markEL (x1.length - (x3 + 1).toNat) (x2 + 1 + 1 + 1 + 1 + 1 + 1 + 1 + 1 + 1) ↔ x1.drop x3.toNat = markEL (x1.length - x3.toNat) x2 := by
          rw [show (x3 + 1).toNat = x3.toNat + 1 by omega, e1, e2, markEL, he, List.cons.injEq]; simp
        simp only [fn2]
        by_cases hc : x1.drop x3.toNat = markEL (x1.length - x3.toNat) x2
        · rw [if_pos hc, if_pos (hi.2 hc)]
          congr 2 <;> omega
        · rw [if_neg hc, if_neg (fun h => hc (hi.1 h))]
    have bad : ¬ e = mE x2 → Rounds pre2 mu2 fn2 (x1, (x2, (x3, ()))) (some (.inr (.inl (-1, ())))) := by
      intro he
      simp only [Rounds, fn2]
      rw [if_neg]
      rw [e1, e2, markEL, List.cons.injEq]
      exact fun h => he h.1
    obtain ⟨t, ⟨a1, a2, a3, a4, a5, a6, a7, a8, _⟩, _⟩ := e
    simp only [Bool.not_eq_true', decide_eq_false_iff_not, beq_eq_false_iff_ne, ne_eq]
    by_cases c0 : t = x2
    case neg => rw [if_pos c0]; exact bad fun h => c0 (congrArg (fun e : Entry => e.1) h)
    rw [if_neg (by simp [c0])]
    by_cases c1 : a1 = x2 + 1
    case neg => rw [if_pos c1]; exact bad fun h => c1 (congrArg (fun e : Entry => e.2.1.1) h)
    rw [if_neg (by simp [c1])]
    by_cases c2 : a2 = x2 + 1 + 1
    case neg => rw [if_pos c2]; exact bad fun h => c2 (congrArg (fun e : Entry => e.2.1.2.1) h)
    rw [if_neg (by simp [c2])]
    by_cases c3 : a3 = x2 + 1 + 1 + 1
    case neg => rw [if_pos c3]; exact bad fun h => c3 (congrArg (fun e : Entry => e.2.1.2.2.1) h)
    rw [if_neg (by simp [c3])]
    by_cases c4 : a4 = x2 + 1 + 1 + 1 + 1
    case neg => rw [if_pos c4]; exact bad fun h => c4 (congrArg (fun e : Entry => e.2.1.2.2.2.1) h)
    rw [if_neg (by simp [c4])]
    by_cases c5 : a5 = x2 + 1 + 1 + 1 + 1 + 1
    case neg => rw [if_pos c5]; exact bad fun h => c5 (congrArg (fun e : Entry => e.2.1.2.2.2.2.1) h)
    rw [if_neg (by simp [c5])]
    by_cases c6 : a6 = x2 + 1 + 1 + 1 + 1 + 1 + 1
    case neg => rw [if_pos c6]; exact bad fun h => c6 (congrArg (fun e : Entry => e.2.1.2.2.2.2.2.1) h)
    rw [if_neg (by simp [c6])]
    by_cases c7 : a7 = laws_markText (x2 + 1 + 1 + 1 + 1 + 1 + 1 + 1)
    case neg => rw [if_pos c7]; exact bad fun h => c7 (congrArg (fun e : Entry => e.2.1.2.2.2.2.2.2.1) h)
    rw [if_neg (by simp [c7])]
    by_cases c8 : a8 = laws_markText (x2 + 1 + 1 + 1 + 1 + 1 + 1 + 1 + 1)
    case neg => rw [if_pos c8]; exact bad fun h => c8 (congrArg (fun e : Entry => e.2.1.2.2.2.2.2.2.2.1) h)
    rw [if_neg (by simp [c8])]
    exact good (by subst c0; subst c1; subst c2; subst c3; subst c4; subst c5; subst c6; subst c7; subst c8; rfl)
  · simp only [hlt, decide_false, Bool.false_eq_true, if_false, Rounds, fn2]
    rw [List.drop_eq_nil_of_le (by omega), show x1.length - x3.toNat = 0 by omega, markEL, if_pos rfl]
    congr 2 <;> omega
theorem eq (x0 : List Entry) (x1 : Int) (_ : wf x0 x1) (hp : pre x0 x1 = true) : raw x0 x1 = some ((), (laws_heldEntryS x0 x1, ())) := by
  simp only [pre, laws_markEntryS.pre, Bool.and_eq_true, decide_eq_true_eq, small_iff] at hp
  unfold raw laws_heldEntryS
  rw [if_pos (show pre2 _ = true by simp only [pre2, Bool.and_eq_true, decide_eq_true_eq]; simp; omega)]
  by_cases he : x0 = markEL x0.length x1
  · have hf : fn2 (x0, (x1, ((0 : Int), ()))) = .inr (x1 + 9 * ((x0.length : Int) - 0), ()) := if_pos he
    rw [hf, if_pos he]
    simp
  · have hf : fn2 (x0, (x1, ((0 : Int), ()))) = .inl (-1, ()) := if_neg he
    rw [hf, if_neg he]
end laws_heldEntryS

noncomputable def laws_heldLog (x : Log) (k : Int) : Int := let r := laws_heldEntryS x.2.2.1 k; if r < 0 then -1 else r
namespace laws_heldLog
def pre (x : Log) (k : Int) : Bool := laws_markEntryS.pre x.2.2.1 k
abbrev wf (x0 : Log) (x1 : Int) : Prop := wfA [(.val (.pair (.int .i64) (.pair (.int .i64) (.pair (.sl 0 (.pair (.int .i64) (.pair (.pair (.int .i64) (.pair (.int .i64) (.pair (.int .i64) (.pair (.int .i64) (.pair (.int .i64) (.pair (.int .i64) (.pair .str (.pair .str .unit)))))))) .unit))) .unit))) .f), (.val (.int .i64) .f)] (x0, (x1, ()))
noncomputable def raw (x0 : Log) (x1 : Int) : Option (Unit × (Int × Unit)) :=
 if (laws_heldEntryS.pre x0.2.2.1 x1) = true then
  if (decide ((laws_heldEntryS x0.2.2.1 x1) < (0 : Int))) = true then
   some ((), ((-1 : Int), ()))
  else
   some ((), ((laws_heldEntryS x0.2.2.1 x1), ()))
 else
  none
theorem eq (x0 : Log) (x1 : Int) (_ : wf x0 x1) (hp : pre x0 x1 = true) : raw x0 x1 = some ((), (laws_heldLog x0 x1, ())) := by
  unfold raw laws_heldLog
  rw [if_pos (show laws_heldEntryS.pre _ _ = true from hp)]
  simp only [decide_eq_true_eq]
  split <;> rfl
end laws_heldLog

theorem held_markLog {x : Log} (h : small x.2.2.1 = true) (a b : Int) (c : Unit) : laws_heldLog (a, (b, ((laws_markLog x 1).1.2.2.1, c))) 1 = 1 + 9 * (x.2.2.1.length : Int) := by
  simp only [laws_heldLog, laws_heldEntryS, laws_markLog, markEL_len, if_true]
  rw [if_neg (by omega)]

/-! ### cutting -/
def impl_copyLog (x : Log) : Log := x
namespace impl_copyLog
def pre (x : Log) : Bool := small x.2.2.1
abbrev wf (x0 : Log) : Prop := wfA [(.val (.pair (.int .i64) (.pair (.int .i64) (.pair (.sl 0 (.pair (.int .i64) (.pair (.pair (.int .i64) (.pair (.int .i64) (.pair (.int .i64) (.pair (.int .i64) (.pair (.int .i64) (.pair (.int .i64) (.pair .str (.pair .str .unit)))))))) .unit))) .unit))) .f)] (x0, ())
noncomputable def raw (x0 : Log) : Option (Unit × (Log × Unit)) :=
 if (decide (List.length ([] : List Entry) + List.length x0.2.2.1 ≤ lim)) = true then
  some ((), ((x0.1, (x0.2.1, ((List.append ([] : List Entry) x0.2.2.1), x0.2.2.2))), ()))
 else
  none
theorem eq (x0 : Log) (_ : wf x0) (hp : pre x0 = true) : raw x0 = some ((), (impl_copyLog x0, ())) := by
  rw [pre, small_iff] at hp
  unfold raw
  rw [if_pos (by simp only [List.length_nil, decide_eq_true_eq, lim]; omega)]; rfl
end impl_copyLog
def spec_l8Copy (x : Log) : Log := x
namespace spec_l8Copy
def pre (x : Log) : Bool := small x.2.2.1
abbrev wf (x0 : Log) : Prop := wfA [(.val (.pair (.int .i64) (.pair (.int .i64) (.pair (.sl 0 (.pair (.int .i64) (.pair (.pair (.int .i64) (.pair (.int .i64) (.pair (.int .i64) (.pair (.int .i64) (.pair (.int .i64) (.pair (.int .i64) (.pair .str (.pair .str .unit)))))))) .unit))) .unit))) .f)] (x0, ())
noncomputable def raw (x0 : Log) : Option (Unit × (Log × Unit)) :=
 if (decide (List.length ([] : List Entry) + List.length x0.2.2.1 ≤ lim)) = true then
  some ((), ((x0.1, (x0.2.1, ((List.append ([] : List Entry) x0.2.2.1), ()))), ()))
 else
  none
theorem eq (x0 : Log) (_ : wf x0) (hp : pre x0 = true) : raw x0 = some ((), (spec_l8Copy x0, ())) := by
  rw [pre, small_iff] at hp
  unfold raw
  rw [if_pos (by simp only [List.length_nil, decide_eq_true_eq, lim]; omega)]; rfl
end spec_l8Copy
/-- The place of number i in the list, if it is there. -/
def spec_l8At (l : Log) (i : Int) : Int := if i ≤ l.1 ∨ 300 < i ∨ l.1 < 0 ∨ (l.2.2.1.length : Int) ≤ i - l.1 - 1 then -1 else i - l.1 - 1
namespace spec_l8At
abbrev wf (x0 : Log) (x1 : Int) : Prop := wfA [(.val (.pair (.int .i64) (.pair (.int .i64) (.pair (.sl 0 (.pair (.int .i64) (.pair (.pair (.int .i64) (.pair (.int .i64) (.pair (.int .i64) (.pair (.int .i64) (.pair (.int .i64) (.pair (.int .i64) (.pair .str (.pair .str .unit)))))))) .unit))) .unit))) .f), (.val (.int .i64) .f)] (x0, (x1, ()))
noncomputable def raw (x0 : Log) (x1 : Int) : Option (Unit × (Int × Unit)) :=
 if (decide (x1 ≤ x0.1)) = true then
  some ((), ((-1 : Int), ()))
 else
  if (decide ((300 : Int) < x1)) = true then
   some ((), ((-1 : Int), ()))
  else
   if (decide (x0.1 < (0 : Int))) = true then
    some ((), ((-1 : Int), ()))
   else
    if (decide (((List.length x0.2.2.1 : Nat) : Int) ≤ (IntKind.wrap .i64 ((IntKind.wrap .i64 (x1 - x0.1)) - (1 : Int))))) = true then
     some ((), ((-1 : Int), ()))
    else
     some ((), ((IntKind.wrap .i64 ((IntKind.wrap .i64 (x1 - x0.1)) - (1 : Int))), ()))
theorem eq (x0 : Log) (x1 : Int) (_ : wf x0 x1) : raw x0 x1 = some ((), (spec_l8At x0 x1, ())) := by
  unfold raw spec_l8At
  by_cases h1 : x1 ≤ x0.1
  · simp [h1]
  by_cases h2 : 300 < x1
  · simp [h1, h2]
  by_cases h3 : x0.1 < 0
  · simp [h1, h2, h3]
  rw [w64 (n := x1 - x0.1) (by omega) (by omega), w64 (n := x1 - x0.1 - 1) (by omega) (by omega)]
  by_cases h4 : (x0.2.2.1.length : Int) ≤ x1 - x0.1 - 1 <;> simp [h1, h2, h3, h4]
end spec_l8At
def LogCut (l : Log) (i : Int) : Log := if spec_l8At l i < 0 then l else (i, ((l.2.2.1.getD (spec_l8At l i).toNat E0).1, (l.2.2.1.drop ((spec_l8At l i).toNat + 1), ())))
abbrev impl_LogCut := LogCut
abbrev spec_LogCut := LogCut
theorem dropTake_end {α : Type} (n : Nat) (xs : List α) : dropTake n xs.length xs = xs.drop n := by
  simp only [dropTake]
  rw [List.take_of_length_le (by simp)]
namespace spec_LogCut
def pre (l : Log) (_ : Int) : Bool := small l.2.2.1
abbrev wf (x0 : Log) (x1 : Int) : Prop := wfA [(.val (.pair (.int .i64) (.pair (.int .i64) (.pair (.sl 0 (.pair (.int .i64) (.pair (.pair (.int .i64) (.pair (.int .i64) (.pair (.int .i64) (.pair (.int .i64) (.pair (.int .i64) (.pair (.int .i64) (.pair .str (.pair .str .unit)))))))) .unit))) .unit))) .f), (.val (.int .i64) .f)] (x0, (x1, ()))
noncomputable def raw (x0 : Log) (x1 : Int) : Option (Unit × (Log × Unit)) :=
 if (spec_l8Copy.pre x0) = true then
  if (decide ((spec_l8At x0 x1) < (0 : Int))) = true then
   some ((), ((spec_l8Copy x0), ()))
  else
   if (decide ((0 : Int) ≤ (spec_l8At x0 x1))) = true then
    if (decide ((spec_l8At x0 x1) < ((List.length x0.2.2.1 : Nat) : Int))) = true then
     if (decide ((0 : Int) ≤ (IntKind.wrap .i64 ((spec_l8At x0 x1) + (1 : Int))))) = true then
      if (decide ((IntKind.wrap .i64 ((spec_l8At x0 x1) + (1 : Int))) ≤ ((List.length x0.2.2.1 : Nat) : Int))) = true then
       if (decide (((List.length x0.2.2.1 : Nat) : Int) ≤ ((List.length x0.2.2.1 : Nat) : Int))) = true then
        if (decide (List.length ([] : List Entry) + List.length (dropTake (Int.toNat (IntKind.wrap .i64 ((spec_l8At x0 x1) + (1 : Int)))) (Int.toNat ((List.length x0.2.2.1 : Nat) : Int)) x0.2.2.1) ≤ lim)) = true then
         some ((), ((x1, ((List.getD x0.2.2.1 (Int.toNat (spec_l8At x0 x1)) ((0 : Int), (((0 : Int), ((0 : Int), ((0 : Int), ((0 : Int), ((0 : Int), ((0 : Int), (([] : List UInt8), (([] : List UInt8), ())))))))), ()))).1, ((List.append ([] : List Entry) (dropTake (Int.toNat (IntKind.wrap .i64 ((spec_l8At x0 x1) + (1 : Int)))) (Int.toNat ((List.length x0.2.2.1 : Nat) : Int)) x0.2.2.1)), ()))), ()))
        else
         none
       else
        none
      else
       none
     else
      none
    else
     none
   else
    none
 else
  none
theorem eq (x0 : Log) (x1 : Int) (_ : wf x0 x1) (hp : pre x0 x1 = true) : raw x0 x1 = some ((), (spec_LogCut x0 x1, ())) := by
  have hc : spec_l8Copy.pre x0 = true := hp
  rw [pre, small_iff] at hp
  unfold raw spec_LogCut LogCut spec_l8Copy
  by_cases h : spec_l8At x0 x1 < 0
  · simp [h, hc]
  · have hb : spec_l8At x0 x1 < (x0.2.2.1.length : Int) := by
      have h' := h
      unfold spec_l8At at h' ⊢
      split at h' <;> rename_i hh
      · omega
      · rw [if_neg hh]; omega
    have hl := dropTake_len (Int.toNat (spec_l8At x0 x1 + 1)) x0.2.2.1.length x0.2.2.1
    have h0 : 0 ≤ spec_l8At x0 x1 := by omega
    rw [w64 (n := spec_l8At x0 x1 + 1) (by omega) (by omega)]
    have h1 : 0 ≤ spec_l8At x0 x1 + 1 := by omega
    have h2 : spec_l8At x0 x1 + 1 ≤ (x0.2.2.1.length : Int) := by omega
    rw [if_pos hc, if_neg (by simp [h]), if_pos (by simp [h0]), if_pos (by simp [hb]), if_pos (by simp [h1]), if_pos (by simp [h2]), if_pos (by simp), Int.toNat_natCast, if_pos (by simp only [List.length_nil, decide_eq_true_eq, lim]; omega), if_neg h, dropTake_end]
    rw [show (spec_l8At x0 x1 + 1).toNat = (spec_l8At x0 x1).toNat + 1 by omega]
    rfl
end spec_LogCut
namespace impl_LogCut
def pre (l : Log) (_ : Int) : Bool := small l.2.2.1
abbrev wf (x0 : Log) (x1 : Int) : Prop := wfA [(.val (.pair (.int .i64) (.pair (.int .i64) (.pair (.sl 0 (.pair (.int .i64) (.pair (.pair (.int .i64) (.pair (.int .i64) (.pair (.int .i64) (.pair (.int .i64) (.pair (.int .i64) (.pair (.int .i64) (.pair .str (.pair .str .unit)))))))) .unit))) .unit))) .f), (.val (.int .i64) .f)] (x0, (x1, ()))
noncomputable def raw (x0 : Log) (x1 : Int) : Option (Unit × (Log × Unit)) :=
 if (!(impl_within x0.1 (0 : Int) (300 : Int))) = true then
  if (impl_copyLog.pre x0) = true then
   some ((), ((impl_copyLog x0), ()))
  else
   none
 else
  if (!(impl_within x1 (0 : Int) (300 : Int))) = true then
   if (impl_copyLog.pre x0) = true then
    some ((), ((impl_copyLog x0), ()))
   else
    none
  else
   if (decide (x1 ≤ x0.1)) = true then
    if (impl_copyLog.pre x0) = true then
     some ((), ((impl_copyLog x0), ()))
    else
     none
   else
    if (decide (((List.length x0.2.2.1 : Nat) : Int) < (IntKind.wrap .i64 (x1 - x0.1)))) = true then
     if (impl_copyLog.pre x0) = true then
      some ((), ((impl_copyLog x0), ()))
     else
      none
    else
     if (decide ((0 : Int) ≤ (IntKind.wrap .i64 ((IntKind.wrap .i64 (x1 - x0.1)) - (1 : Int))))) = true then
      if (decide ((IntKind.wrap .i64 ((IntKind.wrap .i64 (x1 - x0.1)) - (1 : Int))) < ((List.length x0.2.2.1 : Nat) : Int))) = true then
       if (decide ((0 : Int) ≤ (IntKind.wrap .i64 (x1 - x0.1)))) = true then
        if (decide ((IntKind.wrap .i64 (x1 - x0.1)) ≤ ((List.length x0.2.2.1 : Nat) : Int))) = true then
         if (decide (((List.length x0.2.2.1 : Nat) : Int) ≤ ((List.length x0.2.2.1 : Nat) : Int))) = true then
          if (decide (List.length ([] : List Entry) + List.length (dropTake (Int.toNat (IntKind.wrap .i64 (x1 - x0.1))) (Int.toNat ((List.length x0.2.2.1 : Nat) : Int)) x0.2.2.1) ≤ lim)) = true then
           some ((), ((x1, ((List.getD x0.2.2.1 (Int.toNat (IntKind.wrap .i64 ((IntKind.wrap .i64 (x1 - x0.1)) - (1 : Int)))) ((0 : Int), (((0 : Int), ((0 : Int), ((0 : Int), ((0 : Int), ((0 : Int), ((0 : Int), (([] : List UInt8), (([] : List UInt8), ())))))))), ()))).1, ((List.append ([] : List Entry) (dropTake (Int.toNat (IntKind.wrap .i64 (x1 - x0.1))) (Int.toNat ((List.length x0.2.2.1 : Nat) : Int)) x0.2.2.1)), ()))), ()))
          else
           none
         else
          none
        else
         none
       else
        none
      else
       none
     else
      none
theorem eq (x0 : Log) (x1 : Int) (_ : wf x0 x1) (hp : pre x0 x1 = true) : raw x0 x1 = some ((), (impl_LogCut x0 x1, ())) := by
  have hc : impl_copyLog.pre x0 = true := hp
  rw [pre, small_iff] at hp
  unfold raw impl_LogCut LogCut impl_copyLog spec_l8At
  simp only [hc, if_true, impl_within]
  by_cases h1 : x1 ≤ x0.1
  · have : ¬ (0 ≤ x0.1 ∧ x0.1 ≤ 300 ∧ 0 ≤ x1 ∧ x1 ≤ 300 ∧ ¬ x1 ≤ x0.1) := fun h => h.2.2.2.2 h1
    simp [h1]
  by_cases h2 : 300 < x1
  · have h2' : ¬ x1 ≤ 300 := by omega
    simp [h1, h2, h2']
  by_cases h3 : x0.1 < 0
  · have h3' : ¬ 0 ≤ x0.1 := by omega
    simp [h1, h2, h3, h3']
  have g1 : 0 ≤ x0.1 := by omega
  have g2 : x0.1 ≤ 300 := by omega
  have g3 : 0 ≤ x1 := by omega
  have g4 : x1 ≤ 300 := by omega
  rw [w64 (n := x1 - x0.1) (by omega) (by omega), w64 (n := x1 - x0.1 - 1) (by omega) (by omega)]
  by_cases h4 : (x0.2.2.1.length : Int) ≤ x1 - x0.1 - 1
  · have h5 : (x0.2.2.1.length : Int) < x1 - x0.1 := by omega
    simp [h1, h2, h3, h4, h5, g1, g2, g3, g4]
  · have h5 : ¬ (x0.2.2.1.length : Int) < x1 - x0.1 := by omega
    have h6 : 0 ≤ x1 - x0.1 - 1 := by omega
    have h7 : x1 - x0.1 - 1 < (x0.2.2.1.length : Int) := by omega
    have h8 : 0 ≤ x1 - x0.1 := by omega
    have h9 : x1 - x0.1 ≤ (x0.2.2.1.length : Int) := by omega
    have hl := dropTake_len (Int.toNat (x1 - x0.1)) x0.2.2.1.length x0.2.2.1
    rw [if_neg (by simp [g1, g2]), if_neg (by simp [g3, g4]), if_neg (by simp [h1]), if_neg (by simp [h5]), if_pos (by rw [decide_eq_true_eq]; exact h6), if_pos (by rw [decide_eq_true_eq]; exact h7), if_pos (by rw [decide_eq_true_eq]; exact h8), if_pos (by rw [decide_eq_true_eq]; exact h9), if_pos (by simp), Int.toNat_natCast,
      if_pos (by simp only [List.length_nil, decide_eq_true_eq, lim]; omega), if_neg (show ¬ (x1 ≤ x0.1 ∨ 300 < x1 ∨ x0.1 < 0 ∨ (x0.2.2.1.length : Int) ≤ x1 - x0.1 - 1) by omega), dropTake_end]
    rw [if_neg (show ¬ x1 - x0.1 - 1 < 0 by omega), show (x1 - x0.1).toNat = (x1 - x0.1 - 1).toNat + 1 by omega]
    rfl
end impl_LogCut
theorem small_LogCut {l : Log} (h : small l.2.2.1 = true) (i : Int) : small (LogCut l i).2.2.1 = true := by
  unfold LogCut
  split
  · exact h
  · rw [small_iff] at h ⊢
    simp only [List.length_drop]; omega
theorem markLog_pre {l : Log} (h : small l.2.2.1 = true) : laws_markLog.pre l 1 = true := by
  simp [laws_markLog.pre, laws_markEntryS.pre, h]
theorem markLog_2 (l : Log) : (laws_markLog l 1).2 = 1 + 9 * (l.2.2.1.length : Int) := rfl
theorem nneg9 (n : Nat) : ¬ (1 + 9 * (n : Int) < 0) := by omega
theorem heldLog_pre {x : Log} (h : small x.2.2.1 = true) (a b : Int) (c : Unit) : laws_heldLog.pre (a, (b, ((laws_markLog x 1).1.2.2.1, c))) 1 = true := by
  rw [small_iff] at h
  simp [laws_heldLog.pre, laws_markEntryS.pre, laws_markLog, small_iff, markEL_len, h]

def laws_FnExactLogCut (_ : Log) (_ : Int) : Bool := true
namespace laws_FnExactLogCut
abbrev wf (x0 : Log) (x1 : Int) : Prop := wfA [(.val (.pair (.int .i64) (.pair (.int .i64) (.pair (.sl 0 (.pair (.int .i64) (.pair (.pair (.int .i64) (.pair (.int .i64) (.pair (.int .i64) (.pair (.int .i64) (.pair (.int .i64) (.pair (.int .i64) (.pair .str (.pair .str .unit)))))))) .unit))) .unit))) .f), (.val (.int .i64) .f)] (x0, (x1, ()))
noncomputable def raw (x0 : Log) (x1 : Int) : Option (Unit × (Bool × Unit)) :=
 if (decide ((laws_szLog x0 (1048576 : Int)) < (0 : Int))) = true then
  some ((), (true, ()))
 else
  if (laws_toLog.pre x0) = true then
   if (spec_LogCut.pre (laws_toLog x0) x1) = true then
    if (laws_toLog.pre x0) = true then
     if (impl_LogCut.pre (laws_toLog x0) x1) = true then
      if (!(laws_eqLog (LogCut (laws_toLog x0) x1) (LogCut (laws_toLog x0) x1))) = true then
       some ((), (false, ()))
      else
       if (laws_toLog.pre x0) = true then
        if (!(laws_eqLog (laws_toLog x0) (laws_toLog x0))) = true then
         some ((), (false, ()))
        else
         if (laws_markLog.pre (laws_toLog x0) (1 : Int)) = true then
          if (decide ((laws_markLog (laws_toLog x0) (1 : Int)).2 < (0 : Int))) = true then
           some ((), (false, ()))
          else
           if (!(laws_eqLog (LogCut (laws_toLog x0) x1) (LogCut (laws_toLog x0) x1))) = true then
            some ((), (false, ()))
           else
            if (laws_markLog.pre (LogCut (laws_toLog x0) x1) (1 : Int)) = true then
             if (laws_heldLog.pre ((LogCut (laws_toLog x0) x1).1, ((LogCut (laws_toLog x0) x1).2.1, ((laws_markLog (LogCut (laws_toLog x0) x1) (1 : Int)).1.2.2.1, (LogCut (laws_toLog x0) x1).2.2.2))) (1 : Int)) = true then
              if (decide ((laws_heldLog ((LogCut (laws_toLog x0) x1).1, ((LogCut (laws_toLog x0) x1).2.1, ((laws_markLog (LogCut (laws_toLog x0) x1) (1 : Int)).1.2.2.1, (LogCut (laws_toLog x0) x1).2.2.2))) (1 : Int)) < (0 : Int))) = true then
               some ((), (false, ()))
              else
               if (!(decide ((laws_heldLog ((LogCut (laws_toLog x0) x1).1, ((LogCut (laws_toLog x0) x1).2.1, ((laws_markLog (LogCut (laws_toLog x0) x1) (1 : Int)).1.2.2.1, (LogCut (laws_toLog x0) x1).2.2.2))) (1 : Int)) = (laws_markLog (LogCut (laws_toLog x0) x1) (1 : Int)).2))) = true then
                some ((), (false, ()))
               else
                if (laws_toLog.pre x0) = true then
                 if (impl_LogCut.pre (laws_toLog x0) x1) = true then
                  if (!(laws_eqLog (LogCut (laws_toLog x0) x1) (LogCut (laws_toLog x0) x1))) = true then
                   some ((), (false, ()))
                  else
                   if (laws_heldLog.pre ((LogCut (laws_toLog x0) x1).1, ((LogCut (laws_toLog x0) x1).2.1, ((laws_markLog (LogCut (laws_toLog x0) x1) (1 : Int)).1.2.2.1, (LogCut (laws_toLog x0) x1).2.2.2))) (1 : Int)) = true then
                    if (decide ((laws_heldLog ((LogCut (laws_toLog x0) x1).1, ((LogCut (laws_toLog x0) x1).2.1, ((laws_markLog (LogCut (laws_toLog x0) x1) (1 : Int)).1.2.2.1, (LogCut (laws_toLog x0) x1).2.2.2))) (1 : Int)) < (0 : Int))) = true then
                     some ((), (false, ()))
                    else
                     if (!(decide ((laws_heldLog ((LogCut (laws_toLog x0) x1).1, ((LogCut (laws_toLog x0) x1).2.1, ((laws_markLog (LogCut (laws_toLog x0) x1) (1 : Int)).1.2.2.1, (LogCut (laws_toLog x0) x1).2.2.2))) (1 : Int)) = (laws_markLog (LogCut (laws_toLog x0) x1) (1 : Int)).2))) = true then
                      some ((), (false, ()))
                     else
                      some ((), (true, ()))
                   else
                    none
                 else
                  none
                else
                 none
             else
              none
            else
             none
         else
          none
       else
        none
     else
      none
    else
     none
   else
    none
  else
   none
theorem eq (x0 : Log) (x1 : Int) (hw : wf x0 x1) : raw x0 x1 = some ((), (laws_FnExactLogCut x0 x1, ())) := by
  unfold raw
  by_cases h : laws_szLog x0 1048576 < 0
  · simp [h, laws_FnExactLogCut]
  · have hs := szLog_pre hw.1.2.2.1.1 h
    have hp : laws_toLog.pre x0 = true := hs
    have hp1 : impl_LogCut.pre x0 x1 = true := hs
    have hp2 : spec_LogCut.pre x0 x1 = true := hs
    have hs' := small_LogCut hs x1
    have hm := markLog_pre hs
    have hm' := markLog_pre hs'
    simp only [laws_toLog]
    simp [h, hp, hp1, hp2, hm, hm', eqLog_self, markLog_2, held_markLog hs', heldLog_pre hs', nneg9, laws_FnExactLogCut]
end laws_FnExactLogCut
end Go.Aw.Pl
