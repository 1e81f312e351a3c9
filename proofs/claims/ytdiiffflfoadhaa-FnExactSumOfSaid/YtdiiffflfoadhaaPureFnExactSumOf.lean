/- What the printed reading of FnExactSumOf computes: for every list of bytes it answers true. Conditions: none beyond those that the printed law itself names. -/
import Derived.Test.YtdiiffflfoadhaaPFnExactSumOfx1
namespace Go.Proofs.Ytdiiffflfoadhaa.Pure
open Go.RowKit Go.Proofs.Ytdiiffflfoadhaa.PFnExactSumOf Go.Proofs.YtdiiffflfoadhaaW.PrintWords Go.Proofs.YtdiiffflfoadhaaW.PrintLast

theorem wrapNext (i n : Nat) (h : i < n) (hn : n ≤ 1048576) : wrap64 ((i : Int) + 1) = ((i + 1 : Nat) : Int) := by
  have : (i : Int) < 1048576 := by omega
  simp only [wrap64]
  omega

theorem sums (l : List Int) (hl : l.length ≤ 1048576) : ∀ (d k i : Nat), i + d = l.length → d < k → ∀ x y : Int,
    ∃ r, spec_SumOf.l0 k l x y i = some r ∧ impl_SumOf.l0 k x y l (l.length : Int) i = some r
  | 0, k + 1, i, h, _, x, y => by
    have h1 : ¬ ((i : Int) < (l.length : Int)) := by omega
    simp only [spec_SumOf.l0, impl_SumOf.l0, if_neg h1]
    exact ⟨_, rfl, rfl⟩
  | d + 1, k + 1, i, h, hk, x, y => by
    have h1 : (i : Int) < (l.length : Int) := by omega
    have h2 : (0 : Int) ≤ (i : Int) := by omega
    simp only [spec_SumOf.l0, impl_SumOf.l0, if_pos h1, if_pos h2, wrapNext i l.length (by omega) hl]
    exact sums l hl d k (i + 1) (by omega) (by omega) _ _

theorem copies (l : List Int) (hl : l.length ≤ 1048576) : ∀ (d k i : Nat), i + d = l.length → d < k → ∀ z : List Int, z.length = l.length →
    z.take i = l.take i → laws_toByteS.l0 k l z i = some l
  | 0, k + 1, i, h, _, z, hz, ht => by
    have h1 : ¬ ((i : Int) < (l.length : Int)) := by omega
    simp only [laws_toByteS.l0, if_neg h1]
    have : i = l.length := by omega
    subst this
    rw [List.take_of_length_le (by omega), List.take_of_length_le (Nat.le_refl _)] at ht
    rw [ht]
  | d + 1, k + 1, i, h, hk, z, hz, ht => by
    have h1 : (i : Int) < (l.length : Int) := by omega
    have h2 : (0 : Int) ≤ (i : Int) := by omega
    have h3 : (i : Int) < (z.length : Int) := by omega
    simp only [laws_toByteS.l0, if_pos h1, if_pos h2, if_pos h3, wrapNext i l.length (by omega) hl, Int.toNat_natCast]
    have hil : i < l.length := by omega
    have hrd : rd l i = l[i] := by simp [rd, hil]
    refine copies l hl d k (i + 1) (by omega) (by omega) _ (by simpa using hz) ?_
    rw [List.take_succ_eq_append_getElem (by simpa using (by omega : i < z.length)), List.take_succ_eq_append_getElem hil, List.take_set_of_le (Nat.le_refl i), ht, hrd]
    simp

theorem same (l : List Int) (hl : l.length ≤ 1048576) : ∀ (d k i : Nat), i + d = l.length → d < k → laws_eqByteS.l0 k l l i = some true
  | 0, k + 1, i, h, _ => by
    have h1 : ¬ ((i : Int) < (l.length : Int)) := by omega
    simp only [laws_eqByteS.l0, if_neg h1]
  | d + 1, k + 1, i, h, hk => by
    have h1 : (i : Int) < (l.length : Int) := by omega
    have h2 : (0 : Int) ≤ (i : Int) := by omega
    simp only [laws_eqByteS.l0, if_pos h1, if_pos h2, wrapNext i l.length (by omega) hl, if_true]
    exact same l hl d k (i + 1) (by omega) (by omega)

theorem FnExactSumOf : laws_FnExactSumOf.Pure := by
  intro l0 _ _ _
  by_cases hs : (l0.length : Int) > 1048576
  · exact ⟨0, by simp only [laws_FnExactSumOf.f, if_pos hs]⟩
  have hl : l0.length ≤ 1048576 := by omega
  refine ⟨l0.length + 1, ?_⟩
  obtain ⟨r, h1, h2⟩ := sums l0 hl l0.length (l0.length + 1) 0 (by omega) (by omega) 1 0
  have hc : laws_toByteS.f (l0.length + 1) l0 = some l0 := by
    have := copies l0 hl l0.length (l0.length + 1) 0 (by omega) (by omega) (List.replicate l0.length 0) (by simp) (by simp)
    simp only [laws_toByteS.f, Int.toNat_natCast]
    rw [if_pos (by omega), if_pos (by omega)]
    exact this
  have he : laws_eqByteS.f (l0.length + 1) l0 l0 = some true := by
    simp only [laws_eqByteS.f, if_true]
    exact same l0 hl l0.length (l0.length + 1) 0 (by omega) (by omega)
  have hs1 : spec_SumOf.f (l0.length + 1) l0 = some r := h1
  have hs2 : impl_SumOf.f (l0.length + 1) l0 = some r := h2
  simp only [laws_FnExactSumOf.f, if_neg hs, hc, Option.bind_some, hs1, hs2, he, if_true]

end Go.Proofs.Ytdiiffflfoadhaa.Pure
