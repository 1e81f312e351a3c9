/-
  Putting entries into a log.
-/
import Derived.Test.YtdgpjdedpkpfhaaPlG
namespace Go.Aw.Pl
open Go Go.Aw

def TermAt (l : Log) (i : Int) : Int := if i = l.1 then l.2.1 else if spec_l8At l i < 0 then -1 else (l.2.2.1.getD (spec_l8At l i).toNat E0).1
abbrev impl_TermAt := TermAt
abbrev spec_TermAt := TermAt
theorem l8At_lt {l : Log} {i : Int} (h : ¬ spec_l8At l i < 0) : spec_l8At l i < (l.2.2.1.length : Int) ∧ spec_l8At l i = i - l.1 - 1 ∧ 0 ≤ l.1 ∧ i ≤ 300 ∧ l.1 < i := by
  unfold spec_l8At at h ⊢
  split at h <;> rename_i hh
  · omega
  · rw [if_neg hh]; omega
namespace spec_TermAt
abbrev wf (x0 : Log) (x1 : Int) : Prop := wfA [(.val (.pair (.int .i64) (.pair (.int .i64) (.pair (.sl 0 (.pair (.int .i64) (.pair (.pair (.int .i64) (.pair (.int .i64) (.pair (.int .i64) (.pair (.int .i64) (.pair (.int .i64) (.pair (.int .i64) (.pair .str (.pair .str .unit)))))))) .unit))) .unit))) .f), (.val (.int .i64) .f)] (x0, (x1, ()))
noncomputable def raw (x0 : Log) (x1 : Int) : Option (Unit × (Int × Unit)) :=
 if (decide (x1 = x0.1)) = true then
  some ((), (x0.2.1, ()))
 else
  if (decide ((spec_l8At x0 x1) < (0 : Int))) = true then
   some ((), ((-1 : Int), ()))
  else
   if (decide ((0 : Int) ≤ (spec_l8At x0 x1))) = true then
    if (decide ((spec_l8At x0 x1) < ((List.length x0.2.2.1 : Nat) : Int))) = true then
     some ((), ((List.getD x0.2.2.1 (Int.toNat (spec_l8At x0 x1)) ((0 : Int), (((0 : Int), ((0 : Int), ((0 : Int), ((0 : Int), ((0 : Int), ((0 : Int), (([] : List UInt8), (([] : List UInt8), ())))))))), ()))).1, ()))
    else
     none
   else
    none
theorem eq (x0 : Log) (x1 : Int) (_ : wf x0 x1) : raw x0 x1 = some ((), (spec_TermAt x0 x1, ())) := by
  unfold raw spec_TermAt TermAt
  by_cases h : x1 = x0.1
  · simp [h]
  by_cases h2 : spec_l8At x0 x1 < 0
  · simp [h, h2]
  · obtain ⟨g1, _⟩ := l8At_lt h2
    rw [if_neg (by simp [h]), if_neg (by simp [h2]), if_pos (by rw [decide_eq_true_eq]; omega), if_pos (by rw [decide_eq_true_eq]; exact g1), if_neg h, if_neg h2]
end spec_TermAt

namespace impl_TermAt
abbrev wf (x0 : Log) (x1 : Int) : Prop := wfA [(.val (.pair (.int .i64) (.pair (.int .i64) (.pair (.sl 0 (.pair (.int .i64) (.pair (.pair (.int .i64) (.pair (.int .i64) (.pair (.int .i64) (.pair (.int .i64) (.pair (.int .i64) (.pair (.int .i64) (.pair .str (.pair .str .unit)))))))) .unit))) .unit))) .f), (.val (.int .i64) .f)] (x0, (x1, ()))
noncomputable def raw (x0 : Log) (x1 : Int) : Option (Unit × (Int × Unit)) :=
 if (decide (x1 = x0.1)) = true then
  some ((), (x0.2.1, ()))
 else
  if (!(impl_within x0.1 (0 : Int) (300 : Int))) = true then
   some ((), ((-1 : Int), ()))
  else
   if (!(impl_within x1 (0 : Int) (300 : Int))) = true then
    some ((), ((-1 : Int), ()))
   else
    if (!(impl_within (IntKind.wrap .i64 (x1 - x0.1)) (1 : Int) ((List.length x0.2.2.1 : Nat) : Int))) = true then
     some ((), ((-1 : Int), ()))
    else
     if (decide ((0 : Int) ≤ (IntKind.wrap .i64 ((IntKind.wrap .i64 (x1 - x0.1)) - (1 : Int))))) = true then
      if (decide ((IntKind.wrap .i64 ((IntKind.wrap .i64 (x1 - x0.1)) - (1 : Int))) < ((List.length x0.2.2.1 : Nat) : Int))) = true then
       some ((), ((List.getD x0.2.2.1 (Int.toNat (IntKind.wrap .i64 ((IntKind.wrap .i64 (x1 - x0.1)) - (1 : Int)))) ((0 : Int), (((0 : Int), ((0 : Int), ((0 : Int), ((0 : Int), ((0 : Int), ((0 : Int), (([] : List UInt8), (([] : List UInt8), ())))))))), ()))).1, ()))
      else
       none
     else
      none
theorem eq (x0 : Log) (x1 : Int) (_ : wf x0 x1) : raw x0 x1 = some ((), (impl_TermAt x0 x1, ())) := by
  unfold raw impl_TermAt TermAt spec_l8At impl_within
  by_cases h : x1 = x0.1
  · simp [h]
  by_cases h1 : 0 ≤ x0.1 ∧ x0.1 ≤ 300
  case neg =>
    have hc : (!(decide (0 ≤ x0.1) && decide (x0.1 ≤ 300))) = true := by
      simp only [Bool.not_eq_true', Bool.and_eq_false_iff, decide_eq_false_iff_not]; omega
    rw [if_neg (by simp [h]), if_pos hc, if_neg h]
    by_cases h2 : x1 ≤ x0.1 ∨ 300 < x1 ∨ x0.1 < 0 ∨ (x0.2.2.1.length : Int) ≤ x1 - x0.1 - 1
    · rw [if_pos h2]; rfl
    · omega
  obtain ⟨g1, g2⟩ := h1
  by_cases h3 : 0 ≤ x1 ∧ x1 ≤ 300
  case neg =>
    have hc : (!(decide (0 ≤ x1) && decide (x1 ≤ 300))) = true := by
      simp only [Bool.not_eq_true', Bool.and_eq_false_iff, decide_eq_false_iff_not]; omega
    rw [if_neg (by simp [h]), if_neg (by simp [g1, g2]), if_pos hc, if_neg h]
    by_cases h2 : x1 ≤ x0.1 ∨ 300 < x1 ∨ x0.1 < 0 ∨ (x0.2.2.1.length : Int) ≤ x1 - x0.1 - 1
    · rw [if_pos h2]; rfl
    · omega
  obtain ⟨g3, g4⟩ := h3
  rw [w64 (n := x1 - x0.1) (by omega) (by omega), w64 (n := x1 - x0.1 - 1) (by omega) (by omega)]
  by_cases h5 : 1 ≤ x1 - x0.1 ∧ x1 - x0.1 ≤ (x0.2.2.1.length : Int)
  case neg =>
    have hc : (!(decide (1 ≤ x1 - x0.1) && decide (x1 - x0.1 ≤ (x0.2.2.1.length : Int)))) = true := by
      simp only [Bool.not_eq_true', Bool.and_eq_false_iff, decide_eq_false_iff_not]; omega
    rw [if_neg (by simp [h]), if_neg (by simp [g1, g2]), if_neg (by simp [g3, g4]), if_pos hc, if_neg h]
    by_cases h2 : x1 ≤ x0.1 ∨ 300 < x1 ∨ x0.1 < 0 ∨ (x0.2.2.1.length : Int) ≤ x1 - x0.1 - 1
    · rw [if_pos h2]; rfl
    · omega
  obtain ⟨g5, g6⟩ := h5
  have hn : ¬ (x1 ≤ x0.1 ∨ 300 < x1 ∨ x0.1 < 0 ∨ (x0.2.2.1.length : Int) ≤ x1 - x0.1 - 1) := by omega
  have hc : ¬ (!(decide (1 ≤ x1 - x0.1) && decide (x1 - x0.1 ≤ (x0.2.2.1.length : Int)))) = true := by
    rw [decide_eq_true g5, decide_eq_true g6]; simp
  rw [if_neg (by simp [h]), if_neg (by simp [g1, g2]), if_neg (by simp [g3, g4]), if_neg hc, if_pos (by rw [decide_eq_true_eq]; omega), if_pos (by rw [decide_eq_true_eq]; omega), if_neg h, if_neg hn, if_neg (by omega)]
end impl_TermAt

/-- What stands behind entry k, if all of the list has been put from there on. -/
def putL : List Entry → List Entry → Nat → List Entry
  | [], out, _ => out
  | e :: r, out, k => if k < out.length ∧ (out.getD k E0).1 = e.1 then putL r out (k + 1) else putL r (out.take k ++ [e]) (k + 1)

theorem putL_len : (r out : List Entry) → (k : Nat) → k ≤ out.length → (putL r out k).length ≤ out.length + r.length
  | [], out, k, _ => by simp only [putL, List.length_nil]; omega
  | e :: r, out, k, h => by
    simp only [putL]
    split
    · rename_i hc
      have := putL_len r out (k + 1) (by omega)
      simp only [List.length_cons]; omega
    · have h2 : (out.take k ++ [e]).length = k + 1 := by simp; omega
      have := putL_len r (out.take k ++ [e]) (k + 1) (by omega)
      simp only [List.length_cons]; omega

theorem put_next {x2 out : List Entry} {i k : Nat} (hi : i < x2.length) : putL (x2.drop i) out k =
    if k < out.length ∧ (out.getD k E0).1 = (x2.getD i E0).1 then putL (x2.drop (i + 1)) out (k + 1) else putL (x2.drop (i + 1)) (out.take k ++ [x2.getD i E0]) (k + 1) := by
  rw [List.drop_eq_getElem_cons hi, getD_get hi]
  rfl

def kOf (prev base i : Int) : Nat := (prev - base + i).toNat
namespace impl_LogPut
def pre (l : Log) (_ _ : Int) (xs : List Entry) : Bool := small l.2.2.1 && small xs
abbrev S := Int × (List Entry × (Int × (Int × (Log × (Int × (Int × (Unit × (List Entry × (Int × (Int × (Unit × (List Entry × Unit))))))))))))
def pre7 : S → Bool := fun (x1, x2, x3, x4, x5, _, _, _, _, _, _, _, x13, _) =>
  decide (x2.length ≤ 16777216) && (decide (x13.length ≤ 16777216 + x4.toNat) && (decide (x3 = (x2.length : Int)) && (decide (0 ≤ x4) && (decide (x4 ≤ (x2.length : Int)) && (decide (0 ≤ x5.1) && (decide (x5.1 ≤ 300) && (decide (0 ≤ x1 - x5.1) && decide (x1 - x5.1 + x4 ≤ (x13.length : Int)))))))))
def fn7 : S → Log × (Int × (Int × (Unit × (List Entry × (Int × (Int × (Unit × (List Entry × Unit)))))))) := fun (x1, x2, _, x4, x5, x6, x7, x8, x9, x10, x11, x12, x13, _) =>
  (x5, (x6, (x7, (x8, (x9, (x10, (x11, (x12, (putL (x2.drop x4.toNat) x13 (kOf x1 x5.1 x4), ())))))))))
def mu7 : S → Nat := fun (_, x2, _, x4, _) => x2.length - x4.toNat
noncomputable def raw7 (x1 : Int) (x2 : (List Entry)) (x3 : Int) (x4 : Int) (x5 : Log) (x6 : Int) (x7 : Int) (x8 : Unit) (x9 : (List Entry)) (x10 : Int) (x11 : Int) (x12 : Unit) (x13 : (List Entry)) : Option ((Int × ((List Entry) × (Int × (Int × (Log × (Int × (Int × (Unit × ((List Entry) × (Int × (Int × (Unit × ((List Entry) × Unit))))))))))))) ⊕ (Log × (Int × (Int × (Unit × ((List Entry) × (Int × (Int × (Unit × ((List Entry) × Unit)))))))))) :=
 if (decide (x4 < x3)) = true then
  if (decide ((0 : Int) ≤ x4)) = true then
   if (decide (x4 < ((List.length x2 : Nat) : Int))) = true then
    if (decide ((IntKind.wrap .i64 ((IntKind.wrap .i64 (x1 - x5.1)) + x4)) < ((List.length x13 : Nat) : Int))) = true then
     if (decide ((0 : Int) ≤ (IntKind.wrap .i64 ((IntKind.wrap .i64 (x1 - x5.1)) + x4)))) = true then
      if (decide ((IntKind.wrap .i64 ((IntKind.wrap .i64 (x1 - x5.1)) + x4)) < ((List.length x13 : Nat) : Int))) = true then
       if (decide ((List.getD x13 (Int.toNat (IntKind.wrap .i64 ((IntKind.wrap .i64 (x1 - x5.1)) + x4))) ((0 : Int), (((0 : Int), ((0 : Int), ((0 : Int), ((0 : Int), ((0 : Int), ((0 : Int), (([] : List UInt8), (([] : List UInt8), ())))))))), ()))).1 = (List.getD x2 (Int.toNat x4) ((0 : Int), (((0 : Int), ((0 : Int), ((0 : Int), ((0 : Int), ((0 : Int), ((0 : Int), (([] : List UInt8), (([] : List UInt8), ())))))))), ()))).1)) = true then
        some (.inl (x1, (x2, (x3, ((IntKind.wrap .i64 (x4 + (1 : Int))), (x5, (x6, (x7, (x8, (x9, (x10, (x11, (x12, (x13, ()))))))))))))))
       else
        if (decide ((0 : Int) ≤ (0 : Int))) = true then
         if (decide ((0 : Int) ≤ (IntKind.wrap .i64 ((IntKind.wrap .i64 (x1 - x5.1)) + x4)))) = true then
          if (decide ((IntKind.wrap .i64 ((IntKind.wrap .i64 (x1 - x5.1)) + x4)) ≤ (IntKind.wrap .i64 ((IntKind.wrap .i64 (x1 - x5.1)) + x4)))) = true then
           if (decide ((IntKind.wrap .i64 ((IntKind.wrap .i64 (x1 - x5.1)) + x4)) ≤ ((List.length x13 : Nat) : Int))) = true then
            if (decide (List.length (dropTake (Int.toNat (0 : Int)) (Int.toNat (IntKind.wrap .i64 ((IntKind.wrap .i64 (x1 - x5.1)) + x4))) x13) + List.length ((List.getD x2 (Int.toNat x4) ((0 : Int), (((0 : Int), ((0 : Int), ((0 : Int), ((0 : Int), ((0 : Int), ((0 : Int), (([] : List UInt8), (([] : List UInt8), ())))))))), ()))) :: ([] : List Entry)) ≤ lim)) = true then
             some (.inl (x1, (x2, (x3, ((IntKind.wrap .i64 (x4 + (1 : Int))), (x5, (x6, (x7, (x8, (x9, (x10, (x11, (x12, ((List.append (dropTake (Int.toNat (0 : Int)) (Int.toNat (IntKind.wrap .i64 ((IntKind.wrap .i64 (x1 - x5.1)) + x4))) x13) ((List.getD x2 (Int.toNat x4) ((0 : Int), (((0 : Int), ((0 : Int), ((0 : Int), ((0 : Int), ((0 : Int), ((0 : Int), (([] : List UInt8), (([] : List UInt8), ())))))))), ()))) :: ([] : List Entry))), ()))))))))))))))
            else
             none
           else
            none
          else
           none
         else
          none
        else
         none
      else
       none
     else
      none
    else
     if (decide ((0 : Int) ≤ (0 : Int))) = true then
      if (decide ((0 : Int) ≤ (IntKind.wrap .i64 ((IntKind.wrap .i64 (x1 - x5.1)) + x4)))) = true then
       if (decide ((IntKind.wrap .i64 ((IntKind.wrap .i64 (x1 - x5.1)) + x4)) ≤ (IntKind.wrap .i64 ((IntKind.wrap .i64 (x1 - x5.1)) + x4)))) = true then
        if (decide ((IntKind.wrap .i64 ((IntKind.wrap .i64 (x1 - x5.1)) + x4)) ≤ ((List.length x13 : Nat) : Int))) = true then
         if (decide (List.length (dropTake (Int.toNat (0 : Int)) (Int.toNat (IntKind.wrap .i64 ((IntKind.wrap .i64 (x1 - x5.1)) + x4))) x13) + List.length ((List.getD x2 (Int.toNat x4) ((0 : Int), (((0 : Int), ((0 : Int), ((0 : Int), ((0 : Int), ((0 : Int), ((0 : Int), (([] : List UInt8), (([] : List UInt8), ())))))))), ()))) :: ([] : List Entry)) ≤ lim)) = true then
          some (.inl (x1, (x2, (x3, ((IntKind.wrap .i64 (x4 + (1 : Int))), (x5, (x6, (x7, (x8, (x9, (x10, (x11, (x12, ((List.append (dropTake (Int.toNat (0 : Int)) (Int.toNat (IntKind.wrap .i64 ((IntKind.wrap .i64 (x1 - x5.1)) + x4))) x13) ((List.getD x2 (Int.toNat x4) ((0 : Int), (((0 : Int), ((0 : Int), ((0 : Int), ((0 : Int), ((0 : Int), ((0 : Int), (([] : List UInt8), (([] : List UInt8), ())))))))), ()))) :: ([] : List Entry))), ()))))))))))))))
         else
          none
        else
         none
       else
        none
      else
       none
     else
      none
   else
    none
  else
   none
 else
  some (.inr (x5, (x6, (x7, (x8, (x9, (x10, (x11, (x12, (x13, ()))))))))))
theorem ok7 (x1 : Int) (x2 : List Entry) (x3 x4 : Int) (x5 : Log) (x6 x7 : Int) (x8 : Unit) (x9 : List Entry) (x10 x11 : Int) (x12 : Unit) (x13 : List Entry) (hp : pre7 (x1, (x2, (x3, (x4, (x5, (x6, (x7, (x8, (x9, (x10, (x11, (x12, (x13, ()))))))))))))) = true) :
    Rounds pre7 mu7 fn7 (x1, (x2, (x3, (x4, (x5, (x6, (x7, (x8, (x9, (x10, (x11, (x12, (x13, ()))))))))))))) (raw7 x1 x2 x3 x4 x5 x6 x7 x8 x9 x10 x11 x12 x13) := by
  simp only [pre7, Bool.and_eq_true, decide_eq_true_eq] at hp
  obtain ⟨h1, h2, rfl, h4, h5, h6, h7, h8, h9⟩ := hp
  unfold raw7
  by_cases hlt : x4 < (x2.length : Int)
  · have hi : x4.toNat < x2.length := by omega
    rw [w64 (n := x1 - x5.1) (by omega) (by omega), w64 (n := x1 - x5.1 + x4) (by omega) (by omega), w64 (n := x4 + 1) (by omega) (by omega)]
    have hk : (x1 - x5.1 + x4).toNat = kOf x1 x5.1 x4 := rfl
    have hk1 : kOf x1 x5.1 (x4 + 1) = kOf x1 x5.1 x4 + 1 := by unfold kOf; omega
    have hput := put_next (x2 := x2) (out := x13) (k := kOf x1 x5.1 x4) hi
    have h10 : 0 ≤ x1 - x5.1 + x4 := by omega
    have hadd : (x4 + 1).toNat = x4.toNat + 1 := by omega
    have keep : kOf x1 x5.1 x4 < x13.length ∧ (x13.getD (kOf x1 x5.1 x4) E0).1 = (x2.getD x4.toNat E0).1 →
        Rounds pre7 mu7 fn7 (x1, x2, (x2.length : Int), x4, x5, x6, x7, x8, x9, x10, x11, x12, x13, ())
          (some (.inl (x1, x2, (x2.length : Int), x4 + 1, x5, x6, x7, x8, x9, x10, x11, x12, x13, ()))) := by
      intro hc
      simp only [Rounds]
      refine ⟨?_, by simp only [mu7]; omega, ?_⟩
      · simp only [pre7, Bool.and_eq_true, decide_eq_true_eq]
        unfold kOf at hc
        obtain ⟨hc1, _⟩ := hc
        exact ⟨h1, by omega, trivial, by omega, by omega, h6, h7, h8, by omega⟩
      · simp only [fn7, hk1, hadd]
        rw [hput, if_pos hc]
    have cut : ¬ (kOf x1 x5.1 x4 < x13.length ∧ (x13.getD (kOf x1 x5.1 x4) E0).1 = (x2.getD x4.toNat E0).1) →
        Rounds pre7 mu7 fn7 (x1, x2, (x2.length : Int), x4, x5, x6, x7, x8, x9, x10, x11, x12, x13, ())
          (some (.inl (x1, x2, (x2.length : Int), x4 + 1, x5, x6, x7, x8, x9, x10, x11, x12, x13.take (kOf x1 x5.1 x4) ++ [x2.getD x4.toNat E0], ()))) := by
      intro hc
      have hl : (x13.take (kOf x1 x5.1 x4) ++ [x2.getD x4.toNat E0]).length = kOf x1 x5.1 x4 + 1 := by
        simp only [List.length_append, List.length_take, List.length_cons, List.length_nil, kOf]; omega
      simp only [Rounds]
      refine ⟨?_, by simp only [mu7]; omega, ?_⟩
      · simp only [pre7, Bool.and_eq_true, decide_eq_true_eq, hl]
        have hkk : ((kOf x1 x5.1 x4 : Nat) : Int) = x1 - x5.1 + x4 := Int.toNat_of_nonneg h10
        exact ⟨h1, by omega, trivial, by omega, by omega, h6, h7, h8, by push_cast; omega⟩
      · simp only [fn7, hk1, hadd]
        rw [hput, if_neg hc]
    have hkk : ((kOf x1 x5.1 x4 : Nat) : Int) = x1 - x5.1 + x4 := Int.toNat_of_nonneg h10
    have hdt : dropTake (Int.toNat 0) (kOf x1 x5.1 x4) x13 = x13.take (kOf x1 x5.1 x4) := by simp [dropTake]
    have hlim : (x13.take (kOf x1 x5.1 x4)).length + 1 ≤ lim := by simp only [List.length_take, lim]; omega
    simp only [hlt, h4, h10, h9, decide_true, if_true, hk, hdt, Int.le_refl, List.length_cons, List.length_nil, Nat.zero_add, hlim]
    by_cases hb : x1 - x5.1 + x4 < (x13.length : Int)
    · rw [if_pos (by simp [hb])]
      by_cases ht : (x13.getD (kOf x1 x5.1 x4) E0).1 = (x2.getD x4.toNat E0).1
      · rw [if_pos (by simp [hb]), if_pos (by rw [decide_eq_true_eq]; exact ht)]
        exact keep ⟨by omega, ht⟩
      · rw [if_pos (by simp [hb]), if_neg (by rw [decide_eq_true_eq]; exact ht)]
        exact cut fun hc => ht hc.2
    · rw [if_neg (by simp [hb])]
      exact cut fun hc => hb (by omega)
  · simp only [hlt, decide_false, Bool.false_eq_true, if_false, Rounds, fn7]
    rw [List.drop_eq_nil_of_le (by omega)]
    rfl
end impl_LogPut

namespace spec_LogPut
def pre (l : Log) (_ _ : Int) (xs : List Entry) : Bool := small l.2.2.1 && small xs
abbrev S := Int × (List Entry × (Int × (Log × (Int × (Int × (Unit × (List Entry × (Int × (Int × (Unit × (List Entry × Unit)))))))))))
def pre7 : S → Bool := fun (x1, x2, x4, x5, _, _, _, _, _, _, _, x13, _) =>
  decide (x2.length ≤ 16777216) && (decide (x13.length ≤ 16777216 + x4.toNat) && (decide (0 ≤ x4) && (decide (x4 ≤ (x2.length : Int)) && (decide (0 ≤ x5.1) && (decide (x5.1 ≤ 300) && (decide (0 ≤ x1 - x5.1) && decide (x1 - x5.1 + x4 ≤ (x13.length : Int))))))))
def fn7 : S → Log × (Int × (Int × (Unit × (List Entry × (Int × (Int × (Unit × (List Entry × Unit)))))))) := fun (x1, x2, x4, x5, x6, x7, x8, x9, x10, x11, x12, x13, _) =>
  (x5, (x6, (x7, (x8, (x9, (x10, (x11, (x12, (putL (x2.drop x4.toNat) x13 (kOf x1 x5.1 x4), ())))))))))
def mu7 : S → Nat := fun (_, x2, x4, _) => x2.length - x4.toNat
noncomputable def raw7 (x1 : Int) (x2 : (List Entry)) (x3 : Int) (x4 : Log) (x5 : Int) (x6 : Int) (x7 : Unit) (x8 : (List Entry)) (x9 : Int) (x10 : Int) (x11 : Unit) (x12 : (List Entry)) : Option ((Int × ((List Entry) × (Int × (Log × (Int × (Int × (Unit × ((List Entry) × (Int × (Int × (Unit × ((List Entry) × Unit)))))))))))) ⊕ (Log × (Int × (Int × (Unit × ((List Entry) × (Int × (Int × (Unit × ((List Entry) × Unit)))))))))) :=
 if (decide (x3 < ((List.length x2 : Nat) : Int))) = true then
  if (decide ((IntKind.wrap .i64 ((IntKind.wrap .i64 (x1 - x4.1)) + x3)) < ((List.length x12 : Nat) : Int))) = true then
   if (decide ((0 : Int) ≤ (IntKind.wrap .i64 ((IntKind.wrap .i64 (x1 - x4.1)) + x3)))) = true then
    if (decide ((IntKind.wrap .i64 ((IntKind.wrap .i64 (x1 - x4.1)) + x3)) < ((List.length x12 : Nat) : Int))) = true then
     if (decide ((0 : Int) ≤ x3)) = true then
      if (decide (x3 < ((List.length x2 : Nat) : Int))) = true then
       if (decide ((List.getD x12 (Int.toNat (IntKind.wrap .i64 ((IntKind.wrap .i64 (x1 - x4.1)) + x3))) ((0 : Int), (((0 : Int), ((0 : Int), ((0 : Int), ((0 : Int), ((0 : Int), ((0 : Int), (([] : List UInt8), (([] : List UInt8), ())))))))), ()))).1 = (List.getD x2 (Int.toNat x3) ((0 : Int), (((0 : Int), ((0 : Int), ((0 : Int), ((0 : Int), ((0 : Int), ((0 : Int), (([] : List UInt8), (([] : List UInt8), ())))))))), ()))).1)) = true then
        some (.inl (x1, (x2, ((IntKind.wrap .i64 (x3 + (1 : Int))), (x4, (x5, (x6, (x7, (x8, (x9, (x10, (x11, (x12, ())))))))))))))
       else
        if (decide ((0 : Int) ≤ (0 : Int))) = true then
         if (decide ((0 : Int) ≤ (IntKind.wrap .i64 ((IntKind.wrap .i64 (x1 - x4.1)) + x3)))) = true then
          if (decide ((IntKind.wrap .i64 ((IntKind.wrap .i64 (x1 - x4.1)) + x3)) ≤ ((List.length x12 : Nat) : Int))) = true then
           if (decide (List.length ([] : List Entry) + List.length (dropTake (Int.toNat (0 : Int)) (Int.toNat (IntKind.wrap .i64 ((IntKind.wrap .i64 (x1 - x4.1)) + x3))) x12) ≤ lim)) = true then
            if (decide ((0 : Int) ≤ x3)) = true then
             if (decide (x3 < ((List.length x2 : Nat) : Int))) = true then
              if (decide (List.length (List.append ([] : List Entry) (dropTake (Int.toNat (0 : Int)) (Int.toNat (IntKind.wrap .i64 ((IntKind.wrap .i64 (x1 - x4.1)) + x3))) x12)) + List.length ((List.getD x2 (Int.toNat x3) ((0 : Int), (((0 : Int), ((0 : Int), ((0 : Int), ((0 : Int), ((0 : Int), ((0 : Int), (([] : List UInt8), (([] : List UInt8), ())))))))), ()))) :: ([] : List Entry)) ≤ lim)) = true then
               some (.inl (x1, (x2, ((IntKind.wrap .i64 (x3 + (1 : Int))), (x4, (x5, (x6, (x7, (x8, (x9, (x10, (x11, ((List.append (List.append ([] : List Entry) (dropTake (Int.toNat (0 : Int)) (Int.toNat (IntKind.wrap .i64 ((IntKind.wrap .i64 (x1 - x4.1)) + x3))) x12)) ((List.getD x2 (Int.toNat x3) ((0 : Int), (((0 : Int), ((0 : Int), ((0 : Int), ((0 : Int), ((0 : Int), ((0 : Int), (([] : List UInt8), (([] : List UInt8), ())))))))), ()))) :: ([] : List Entry))), ())))))))))))))
              else
               none
             else
              none
            else
             none
           else
            none
          else
           none
         else
          none
        else
         none
      else
       none
     else
      none
    else
     none
   else
    none
  else
   if (decide ((0 : Int) ≤ x3)) = true then
    if (decide (x3 < ((List.length x2 : Nat) : Int))) = true then
     if (decide (List.length x12 + List.length ((List.getD x2 (Int.toNat x3) ((0 : Int), (((0 : Int), ((0 : Int), ((0 : Int), ((0 : Int), ((0 : Int), ((0 : Int), (([] : List UInt8), (([] : List UInt8), ())))))))), ()))) :: ([] : List Entry)) ≤ lim)) = true then
      some (.inl (x1, (x2, ((IntKind.wrap .i64 (x3 + (1 : Int))), (x4, (x5, (x6, (x7, (x8, (x9, (x10, (x11, ((List.append x12 ((List.getD x2 (Int.toNat x3) ((0 : Int), (((0 : Int), ((0 : Int), ((0 : Int), ((0 : Int), ((0 : Int), ((0 : Int), (([] : List UInt8), (([] : List UInt8), ())))))))), ()))) :: ([] : List Entry))), ())))))))))))))
     else
      none
    else
     none
   else
    none
 else
  some (.inr (x4, (x5, (x6, (x7, (x8, (x9, (x10, (x11, (x12, ()))))))))))
theorem ok7 (x1 : Int) (x2 : List Entry) (x4 : Int) (x5 : Log) (x6 x7 : Int) (x8 : Unit) (x9 : List Entry) (x10 x11 : Int) (x12 : Unit) (x13 : List Entry) (hp : pre7 (x1, x2, x4, x5, x6, x7, x8, x9, x10, x11, x12, x13, ()) = true) :
    Rounds pre7 mu7 fn7 (x1, x2, x4, x5, x6, x7, x8, x9, x10, x11, x12, x13, ()) (raw7 x1 x2 x4 x5 x6 x7 x8 x9 x10 x11 x12 x13) := by
  simp only [pre7, Bool.and_eq_true, decide_eq_true_eq] at hp
  obtain ⟨h1, h2, h4, h5, h6, h7, h8, h9⟩ := hp
  unfold raw7
  by_cases hlt : x4 < (x2.length : Int)
  · have hi : x4.toNat < x2.length := by omega
    rw [w64 (n := x1 - x5.1) (by omega) (by omega), w64 (n := x1 - x5.1 + x4) (by omega) (by omega), w64 (n := x4 + 1) (by omega) (by omega)]
    have hk : (x1 - x5.1 + x4).toNat = kOf x1 x5.1 x4 := rfl
    have hk1 : kOf x1 x5.1 (x4 + 1) = kOf x1 x5.1 x4 + 1 := by unfold kOf; omega
    have hput := put_next (x2 := x2) (out := x13) (k := kOf x1 x5.1 x4) hi
    have h10 : 0 ≤ x1 - x5.1 + x4 := by omega
    have hadd : (x4 + 1).toNat = x4.toNat + 1 := by omega
    have hkk : ((kOf x1 x5.1 x4 : Nat) : Int) = x1 - x5.1 + x4 := Int.toNat_of_nonneg h10
    have keep : kOf x1 x5.1 x4 < x13.length ∧ (x13.getD (kOf x1 x5.1 x4) E0).1 = (x2.getD x4.toNat E0).1 →
        Rounds pre7 mu7 fn7 (x1, x2, x4, x5, x6, x7, x8, x9, x10, x11, x12, x13, ())
          (some (.inl (x1, x2, x4 + 1, x5, x6, x7, x8, x9, x10, x11, x12, x13, ()))) := by
      intro hc
      simp only [Rounds]
      refine ⟨?_, by simp only [mu7]; omega, ?_⟩
      · simp only [pre7, Bool.and_eq_true, decide_eq_true_eq]
        obtain ⟨hc1, _⟩ := hc
        exact ⟨h1, by omega, by omega, by omega, h6, h7, h8, by omega⟩
      · simp only [fn7, hk1, hadd]
        rw [hput, if_pos hc]
    have cut : ¬ (kOf x1 x5.1 x4 < x13.length ∧ (x13.getD (kOf x1 x5.1 x4) E0).1 = (x2.getD x4.toNat E0).1) →
        Rounds pre7 mu7 fn7 (x1, x2, x4, x5, x6, x7, x8, x9, x10, x11, x12, x13, ())
          (some (.inl (x1, x2, x4 + 1, x5, x6, x7, x8, x9, x10, x11, x12, x13.take (kOf x1 x5.1 x4) ++ [x2.getD x4.toNat E0], ()))) := by
      intro hc
      have hl : (x13.take (kOf x1 x5.1 x4) ++ [x2.getD x4.toNat E0]).length = kOf x1 x5.1 x4 + 1 := by
        simp only [List.length_append, List.length_take, List.length_cons, List.length_nil]; omega
      simp only [Rounds]
      refine ⟨?_, by simp only [mu7]; omega, ?_⟩
      · simp only [pre7, Bool.and_eq_true, decide_eq_true_eq, hl]
        exact ⟨h1, by omega, by omega, by omega, h6, h7, h8, by push_cast; omega⟩
      · simp only [fn7, hk1, hadd]
        rw [hput, if_neg hc]
    have hdt : dropTake (Int.toNat 0) (kOf x1 x5.1 x4) x13 = x13.take (kOf x1 x5.1 x4) := by simp [dropTake]
    have hlim : (x13.take (kOf x1 x5.1 x4)).length + 1 ≤ lim := by simp only [List.length_take, lim]; omega
    have hlim0 : (x13.take (kOf x1 x5.1 x4)).length ≤ lim := by omega
    have hlim2 : x13.length + 1 ≤ lim := by simp only [lim]; omega
    simp only [hlt, h4, h10, h9, decide_true, if_true, hk, hdt, Int.le_refl, List.append_eq, List.nil_append, List.length_cons, List.length_nil, Nat.zero_add, hlim, hlim0, hlim2]
    by_cases hb : x1 - x5.1 + x4 < (x13.length : Int)
    · rw [if_pos (by simp [hb])]
      by_cases ht : (x13.getD (kOf x1 x5.1 x4) E0).1 = (x2.getD x4.toNat E0).1
      · rw [if_pos (by simp [hb]), if_pos (by rw [decide_eq_true_eq]; exact ht)]
        exact keep ⟨by omega, ht⟩
      · rw [if_pos (by simp [hb]), if_neg (by rw [decide_eq_true_eq]; exact ht)]
        exact cut fun hc => ht hc.2
    · rw [if_neg (by simp [hb])]
      have hall : x13.take (kOf x1 x5.1 x4) = x13 := List.take_of_length_le (by omega)
      have := cut fun hc => hb (by omega)
      rw [hall] at this
      exact this
  · simp only [hlt, decide_false, Bool.false_eq_true, if_false, Rounds, fn7]
    rw [List.drop_eq_nil_of_le (by omega)]
    rfl
end spec_LogPut

def LogPut (l : Log) (prev term : Int) (xs : List Entry) : Log × Bool :=
  if LogOk l = true then
    if term < 0 then (l, false) else
    if TermAt l prev = term then
      if LogOk (l.1, (l.2.1, (putL xs l.2.2.1 (kOf prev l.1 0), ()))) = true then ((l.1, (l.2.1, (putL xs l.2.2.1 (kOf prev l.1 0), ()))), true) else (l, false)
    else (l, false)
  else (((0 : Int), ((0 : Int), (([] : List Entry), ()))), false)
abbrev impl_LogPut := LogPut
abbrev spec_LogPut := LogPut

theorem logOk_base {l : Log} (h : LogOk l = true) : 0 ≤ l.1 ∧ l.1 ≤ 300 ∧ (l.2.2.1.length : Int) ≤ 300 - l.1 := by
  simp only [LogOk, Bool.and_eq_true, decide_eq_true_eq] at h
  have := within_hi' h.1
  exact ⟨this.1, this.2, h.2.2.1⟩
where
  within_hi' {n lo hi : Int} (h : impl_within n lo hi = true) : lo ≤ n ∧ n ≤ hi := by
    simpa [impl_within] using h

theorem termAt_in {l : Log} {i t : Int} (h : TermAt l i = t) (ht : ¬ t < 0) : 0 ≤ i - l.1 ∧ i - l.1 ≤ (l.2.2.1.length : Int) := by
  unfold TermAt at h
  split at h
  · omega
  · split at h
    · omega
    · rename_i h2
      obtain ⟨g1, g2, _⟩ := l8At_lt h2
      omega

namespace impl_LogPut
abbrev wf (x0 : Log) (x1 : Int) (x2 : Int) (x3 : (List Entry)) : Prop := wfA [(.val (.pair (.int .i64) (.pair (.int .i64) (.pair (.sl 0 (.pair (.int .i64) (.pair (.pair (.int .i64) (.pair (.int .i64) (.pair (.int .i64) (.pair (.int .i64) (.pair (.int .i64) (.pair (.int .i64) (.pair .str (.pair .str .unit)))))))) .unit))) .unit))) .f), (.val (.int .i64) .f), (.val (.int .i64) .f), (.val (.sl 0 (.pair (.int .i64) (.pair (.pair (.int .i64) (.pair (.int .i64) (.pair (.int .i64) (.pair (.int .i64) (.pair (.int .i64) (.pair (.int .i64) (.pair .str (.pair .str .unit)))))))) .unit))) .f)] (x0, (x1, (x2, (x3, ()))))
noncomputable def raw (x0 : Log) (x1 : Int) (x2 : Int) (x3 : (List Entry)) : Option (Unit × (Log × (Bool × Unit))) :=
 if (!(LogOk x0)) = true then
  some ((), (((0 : Int), ((0 : Int), (([] : List Entry), ()))), (false, ())))
 else
  if (impl_copyLog.pre x0) = true then
   if (decide (x2 < (0 : Int))) = true then
    some ((), ((impl_copyLog x0), (false, ())))
   else
    if (!(decide ((TermAt x0 x1) = x2))) = true then
     some ((), ((impl_copyLog x0), (false, ())))
    else
     if (impl_LogPut.pre7 (x1, (x3, (((List.length x3 : Nat) : Int), ((0 : Int), (x0, ((0 : Int), ((0 : Int), ((), (([] : List Entry), ((impl_copyLog x0).1, ((impl_copyLog x0).2.1, ((impl_copyLog x0).2.2.2, (impl_copyLog x0).2.2))))))))))))) = true then
      if (!(LogOk ((impl_LogPut.fn7 (x1, (x3, (((List.length x3 : Nat) : Int), ((0 : Int), (x0, ((0 : Int), ((0 : Int), ((), (([] : List Entry), ((impl_copyLog x0).1, ((impl_copyLog x0).2.1, ((impl_copyLog x0).2.2.2, (impl_copyLog x0).2.2))))))))))))).2.2.2.2.2.1, ((impl_LogPut.fn7 (x1, (x3, (((List.length x3 : Nat) : Int), ((0 : Int), (x0, ((0 : Int), ((0 : Int), ((), (([] : List Entry), ((impl_copyLog x0).1, ((impl_copyLog x0).2.1, ((impl_copyLog x0).2.2.2, (impl_copyLog x0).2.2))))))))))))).2.2.2.2.2.2.1, ((impl_LogPut.fn7 (x1, (x3, (((List.length x3 : Nat) : Int), ((0 : Int), (x0, ((0 : Int), ((0 : Int), ((), (([] : List Entry), ((impl_copyLog x0).1, ((impl_copyLog x0).2.1, ((impl_copyLog x0).2.2.2, (impl_copyLog x0).2.2))))))))))))).2.2.2.2.2.2.2.2.1, (impl_LogPut.fn7 (x1, (x3, (((List.length x3 : Nat) : Int), ((0 : Int), (x0, ((0 : Int), ((0 : Int), ((), (([] : List Entry), ((impl_copyLog x0).1, ((impl_copyLog x0).2.1, ((impl_copyLog x0).2.2.2, (impl_copyLog x0).2.2))))))))))))).2.2.2.2.2.2.2.1))))) = true then
       if (impl_copyLog.pre (impl_LogPut.fn7 (x1, (x3, (((List.length x3 : Nat) : Int), ((0 : Int), (x0, ((0 : Int), ((0 : Int), ((), (([] : List Entry), ((impl_copyLog x0).1, ((impl_copyLog x0).2.1, ((impl_copyLog x0).2.2.2, (impl_copyLog x0).2.2))))))))))))).1) = true then
        some ((), ((impl_copyLog (impl_LogPut.fn7 (x1, (x3, (((List.length x3 : Nat) : Int), ((0 : Int), (x0, ((0 : Int), ((0 : Int), ((), (([] : List Entry), ((impl_copyLog x0).1, ((impl_copyLog x0).2.1, ((impl_copyLog x0).2.2.2, (impl_copyLog x0).2.2))))))))))))).1), (false, ())))
       else
        none
      else
       some ((), (((impl_LogPut.fn7 (x1, (x3, (((List.length x3 : Nat) : Int), ((0 : Int), (x0, ((0 : Int), ((0 : Int), ((), (([] : List Entry), ((impl_copyLog x0).1, ((impl_copyLog x0).2.1, ((impl_copyLog x0).2.2.2, (impl_copyLog x0).2.2))))))))))))).2.2.2.2.2.1, ((impl_LogPut.fn7 (x1, (x3, (((List.length x3 : Nat) : Int), ((0 : Int), (x0, ((0 : Int), ((0 : Int), ((), (([] : List Entry), ((impl_copyLog x0).1, ((impl_copyLog x0).2.1, ((impl_copyLog x0).2.2.2, (impl_copyLog x0).2.2))))))))))))).2.2.2.2.2.2.1, ((impl_LogPut.fn7 (x1, (x3, (((List.length x3 : Nat) : Int), ((0 : Int), (x0, ((0 : Int), ((0 : Int), ((), (([] : List Entry), ((impl_copyLog x0).1, ((impl_copyLog x0).2.1, ((impl_copyLog x0).2.2.2, (impl_copyLog x0).2.2))))))))))))).2.2.2.2.2.2.2.2.1, (impl_LogPut.fn7 (x1, (x3, (((List.length x3 : Nat) : Int), ((0 : Int), (x0, ((0 : Int), ((0 : Int), ((), (([] : List Entry), ((impl_copyLog x0).1, ((impl_copyLog x0).2.1, ((impl_copyLog x0).2.2.2, (impl_copyLog x0).2.2))))))))))))).2.2.2.2.2.2.2.1))), (true, ())))
     else
      none
  else
   none
theorem eq (x0 : Log) (x1 x2 : Int) (x3 : List Entry) (_ : wf x0 x1 x2 x3) (hp : pre x0 x1 x2 x3 = true) : raw x0 x1 x2 x3 = some ((), ((impl_LogPut x0 x1 x2 x3).1, ((impl_LogPut x0 x1 x2 x3).2, ()))) := by
  simp only [pre, Bool.and_eq_true] at hp
  have hc : impl_copyLog.pre x0 = true := hp.1
  have hl := small_iff.1 hp.1
  have hx := small_iff.1 hp.2
  unfold raw impl_LogPut LogPut impl_copyLog
  by_cases h1 : LogOk x0 = true
  case neg => simp [h1]
  rw [if_neg (by simp [h1]), if_pos hc, if_pos h1]
  by_cases h2 : x2 < 0
  · rw [if_pos (by simp [h2]), if_pos h2]
  rw [if_neg (by simp [h2]), if_neg h2]
  by_cases h3 : TermAt x0 x1 = x2
  case neg => rw [if_pos (by simp [h3]), if_neg h3]
  rw [if_neg (by simp [h3]), if_pos h3]
  obtain ⟨b1, b2, b3⟩ := logOk_base h1
  obtain ⟨t1, t2⟩ := termAt_in h3 h2
  have hpre : pre7 (x1, (x3, (((List.length x3 : Nat) : Int), ((0 : Int), (x0, ((0 : Int), ((0 : Int), ((), (([] : List Entry), (x0.1, (x0.2.1, (x0.2.2.2, x0.2.2)))))))))))) = true := by
    simp only [pre7, Bool.and_eq_true, decide_eq_true_eq]
    exact ⟨hx, (by show x0.2.2.1.length ≤ 16777216 + Int.toNat 0; omega), trivial, by omega, by omega, b1, b2, t1, (by show x1 - x0.1 + 0 ≤ (x0.2.2.1.length : Int); omega)⟩
  rw [if_pos hpre]
  have hfn : fn7 (x1, (x3, (((List.length x3 : Nat) : Int), ((0 : Int), (x0, ((0 : Int), ((0 : Int), ((), (([] : List Entry), (x0.1, (x0.2.1, (x0.2.2.2, x0.2.2)))))))))))) =
      (x0, (0, (0, ((), (([] : List Entry), (x0.1, (x0.2.1, ((), (putL x3 x0.2.2.1 (kOf x1 x0.1 0), ()))))))))) := rfl
  simp only [hfn, hc]
  by_cases h4 : LogOk (x0.1, (x0.2.1, (putL x3 x0.2.2.1 (kOf x1 x0.1 0), ()))) = true
  · simp [h4]
  · simp [h4]
end impl_LogPut
namespace spec_LogPut
abbrev wf (x0 : Log) (x1 : Int) (x2 : Int) (x3 : (List Entry)) : Prop := wfA [(.val (.pair (.int .i64) (.pair (.int .i64) (.pair (.sl 0 (.pair (.int .i64) (.pair (.pair (.int .i64) (.pair (.int .i64) (.pair (.int .i64) (.pair (.int .i64) (.pair (.int .i64) (.pair (.int .i64) (.pair .str (.pair .str .unit)))))))) .unit))) .unit))) .f), (.val (.int .i64) .f), (.val (.int .i64) .f), (.val (.sl 0 (.pair (.int .i64) (.pair (.pair (.int .i64) (.pair (.int .i64) (.pair (.int .i64) (.pair (.int .i64) (.pair (.int .i64) (.pair (.int .i64) (.pair .str (.pair .str .unit)))))))) .unit))) .f)] (x0, (x1, (x2, (x3, ()))))
noncomputable def raw (x0 : Log) (x1 : Int) (x2 : Int) (x3 : (List Entry)) : Option (Unit × (Log × (Bool × Unit))) :=
 if (!(LogOk x0)) = true then
  some ((), (((0 : Int), ((0 : Int), (([] : List Entry), ()))), (false, ())))
 else
  if (spec_l8Copy.pre x0) = true then
   if (decide (x2 < (0 : Int))) = true then
    some ((), ((spec_l8Copy x0), (false, ())))
   else
    if (!(decide ((TermAt x0 x1) = x2))) = true then
     some ((), ((spec_l8Copy x0), (false, ())))
    else
     if (spec_LogPut.pre7 (x1, (x3, ((0 : Int), (x0, ((0 : Int), ((0 : Int), ((), (([] : List Entry), ((spec_l8Copy x0).1, ((spec_l8Copy x0).2.1, ((spec_l8Copy x0).2.2.2, (spec_l8Copy x0).2.2)))))))))))) = true then
      if (!(LogOk ((spec_LogPut.fn7 (x1, (x3, ((0 : Int), (x0, ((0 : Int), ((0 : Int), ((), (([] : List Entry), ((spec_l8Copy x0).1, ((spec_l8Copy x0).2.1, ((spec_l8Copy x0).2.2.2, (spec_l8Copy x0).2.2)))))))))))).2.2.2.2.2.1, ((spec_LogPut.fn7 (x1, (x3, ((0 : Int), (x0, ((0 : Int), ((0 : Int), ((), (([] : List Entry), ((spec_l8Copy x0).1, ((spec_l8Copy x0).2.1, ((spec_l8Copy x0).2.2.2, (spec_l8Copy x0).2.2)))))))))))).2.2.2.2.2.2.1, ((spec_LogPut.fn7 (x1, (x3, ((0 : Int), (x0, ((0 : Int), ((0 : Int), ((), (([] : List Entry), ((spec_l8Copy x0).1, ((spec_l8Copy x0).2.1, ((spec_l8Copy x0).2.2.2, (spec_l8Copy x0).2.2)))))))))))).2.2.2.2.2.2.2.2.1, (spec_LogPut.fn7 (x1, (x3, ((0 : Int), (x0, ((0 : Int), ((0 : Int), ((), (([] : List Entry), ((spec_l8Copy x0).1, ((spec_l8Copy x0).2.1, ((spec_l8Copy x0).2.2.2, (spec_l8Copy x0).2.2)))))))))))).2.2.2.2.2.2.2.1))))) = true then
       if (spec_l8Copy.pre (spec_LogPut.fn7 (x1, (x3, ((0 : Int), (x0, ((0 : Int), ((0 : Int), ((), (([] : List Entry), ((spec_l8Copy x0).1, ((spec_l8Copy x0).2.1, ((spec_l8Copy x0).2.2.2, (spec_l8Copy x0).2.2)))))))))))).1) = true then
        some ((), ((spec_l8Copy (spec_LogPut.fn7 (x1, (x3, ((0 : Int), (x0, ((0 : Int), ((0 : Int), ((), (([] : List Entry), ((spec_l8Copy x0).1, ((spec_l8Copy x0).2.1, ((spec_l8Copy x0).2.2.2, (spec_l8Copy x0).2.2)))))))))))).1), (false, ())))
       else
        none
      else
       some ((), (((spec_LogPut.fn7 (x1, (x3, ((0 : Int), (x0, ((0 : Int), ((0 : Int), ((), (([] : List Entry), ((spec_l8Copy x0).1, ((spec_l8Copy x0).2.1, ((spec_l8Copy x0).2.2.2, (spec_l8Copy x0).2.2)))))))))))).2.2.2.2.2.1, ((spec_LogPut.fn7 (x1, (x3, ((0 : Int), (x0, ((0 : Int), ((0 : Int), ((), (([] : List Entry), ((spec_l8Copy x0).1, ((spec_l8Copy x0).2.1, ((spec_l8Copy x0).2.2.2, (spec_l8Copy x0).2.2)))))))))))).2.2.2.2.2.2.1, ((spec_LogPut.fn7 (x1, (x3, ((0 : Int), (x0, ((0 : Int), ((0 : Int), ((), (([] : List Entry), ((spec_l8Copy x0).1, ((spec_l8Copy x0).2.1, ((spec_l8Copy x0).2.2.2, (spec_l8Copy x0).2.2)))))))))))).2.2.2.2.2.2.2.2.1, (spec_LogPut.fn7 (x1, (x3, ((0 : Int), (x0, ((0 : Int), ((0 : Int), ((), (([] : List Entry), ((spec_l8Copy x0).1, ((spec_l8Copy x0).2.1, ((spec_l8Copy x0).2.2.2, (spec_l8Copy x0).2.2)))))))))))).2.2.2.2.2.2.2.1))), (true, ())))
     else
      none
  else
   none
theorem eq (x0 : Log) (x1 x2 : Int) (x3 : List Entry) (_ : wf x0 x1 x2 x3) (hp : pre x0 x1 x2 x3 = true) : raw x0 x1 x2 x3 = some ((), ((spec_LogPut x0 x1 x2 x3).1, ((spec_LogPut x0 x1 x2 x3).2, ()))) := by
  simp only [pre, Bool.and_eq_true] at hp
  have hc : spec_l8Copy.pre x0 = true := hp.1
  have hl := small_iff.1 hp.1
  have hx := small_iff.1 hp.2
  unfold raw spec_LogPut LogPut spec_l8Copy
  by_cases h1 : LogOk x0 = true
  case neg => simp [h1]
  rw [if_neg (by simp [h1]), if_pos hc, if_pos h1]
  by_cases h2 : x2 < 0
  · rw [if_pos (by simp [h2]), if_pos h2]
  rw [if_neg (by simp [h2]), if_neg h2]
  by_cases h3 : TermAt x0 x1 = x2
  case neg => rw [if_pos (by simp [h3]), if_neg h3]
  rw [if_neg (by simp [h3]), if_pos h3]
  obtain ⟨b1, b2, b3⟩ := logOk_base h1
  obtain ⟨t1, t2⟩ := termAt_in h3 h2
  have hpre : pre7 (x1, (x3, ((0 : Int), (x0, ((0 : Int), ((0 : Int), ((), (([] : List Entry), (x0.1, (x0.2.1, (x0.2.2.2, x0.2.2))))))))))) = true := by
    simp only [pre7, Bool.and_eq_true, decide_eq_true_eq]
    exact ⟨hx, (by show x0.2.2.1.length ≤ 16777216 + Int.toNat 0; omega), by omega, by omega, b1, b2, t1, (by show x1 - x0.1 + 0 ≤ (x0.2.2.1.length : Int); omega)⟩
  rw [if_pos hpre]
  have hfn : fn7 (x1, (x3, ((0 : Int), (x0, ((0 : Int), ((0 : Int), ((), (([] : List Entry), (x0.1, (x0.2.1, (x0.2.2.2, x0.2.2))))))))))) =
      (x0, (0, (0, ((), (([] : List Entry), (x0.1, (x0.2.1, ((), (putL x3 x0.2.2.1 (kOf x1 x0.1 0), ()))))))))) := rfl
  simp only [hfn, hc]
  by_cases h4 : LogOk (x0.1, (x0.2.1, (putL x3 x0.2.2.1 (kOf x1 x0.1 0), ()))) = true
  · simp [h4]
  · simp [h4]
end spec_LogPut
end Go.Aw.Pl
