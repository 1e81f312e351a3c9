/-
  Loops over lists that are alike from kind to kind: copying, comparing, weighing.
-/
import Derived.Test.YtdgpjdedpkpfhaaPlA
namespace Go.Aw.Pl
open Go Go.Aw

theorem modify_const {α : Type} (l : List α) (i : Nat) (v : α) : l.modify i (fun _ => v) = l.set i v := by
  apply List.ext_getElem?
  intro j
  rw [List.getElem?_modify, List.getElem?_set]
  by_cases h : i = j
  · subst h
    rcases Nat.lt_or_ge i l.length with hl | hl
    · simp [hl]
    · simp [List.getElem?_eq_none hl, Nat.not_lt.2 hl]
  · simp [h]

section
variable {α : Type}

/-! ### copying: out[i] = f(a[i]) -/
abbrev ToS (α : Type) := List α × (Int × (List α × Unit))
def toPre : ToS α → Prop := fun s => s.1.length ≤ maxLen ∧ 0 ≤ s.2.1 ∧ s.2.1.toNat ≤ s.1.length ∧ s.2.2.1.length = s.1.length ∧ s.2.2.1.take s.2.1.toNat = s.1.take s.2.1.toNat
open Classical in
noncomputable def toPreB (s : ToS α) : Bool := decide (toPre s)
def toFn : ToS α → List α × Unit := fun s => (s.1, ())
def toMu : ToS α → Nat := fun s => s.1.length - s.2.1.toNat

theorem toPreB_iff {s : ToS α} : toPreB s = true ↔ toPre s := by simp [toPreB]

theorem to_next {x1 : List α} {x2 : Int} {x3 : List α} (hp : toPreB (x1, (x2, (x3, ()))) = true) (hlt : x2 < (x1.length : Int)) (d : α) :
    x2 < (x3.length : Int) ∧ 0 ≤ x2 ∧ Rounds toPreB toMu toFn (x1, (x2, (x3, ()))) (some (.inl (x1, (IntKind.wrap .i64 (x2 + 1), (x3.modify x2.toNat (fun _ => x1.getD x2.toNat d), ()))))) := by
  rw [toPreB_iff] at hp
  obtain ⟨h1, h2, h3, h4, h5⟩ := hp
  simp only [] at h1 h2 h3 h4 h5
  have hM := maxLen_eq
  have hn : x2.toNat < x1.length := by omega
  refine ⟨by omega, h2, ?_⟩
  simp only [Rounds, w64 (n := x2 + 1) (by omega) (by omega), toPreB_iff]
  refine ⟨⟨h1, by show 0 ≤ x2 + 1; omega, by show (x2 + 1).toNat ≤ x1.length; omega, by show (List.modify _ _ _).length = _; rw [List.length_modify]; exact h4, ?_⟩, by simp only [toMu]; omega, rfl⟩
  show List.take (x2 + 1).toNat (x3.modify x2.toNat (fun _ => x1.getD x2.toNat d)) = List.take (x2 + 1).toNat x1
  rw [modify_const, show (x2 + 1).toNat = x2.toNat + 1 by omega, List.take_add_one, List.take_add_one, List.take_set_of_le (by omega), h5]
  congr 1
  rw [List.getElem?_set_self (by omega), getD_get hn, List.getElem?_eq_getElem hn]

theorem to_end {x1 : List α} {x2 : Int} {x3 : List α} (hp : toPreB (x1, (x2, (x3, ()))) = true) (hlt : ¬ x2 < (x1.length : Int)) :
    Rounds toPreB toMu toFn (x1, (x2, (x3, ()))) (some (.inr (x3, ()))) := by
  rw [toPreB_iff] at hp
  obtain ⟨h1, h2, h3, h4, h5⟩ := hp
  simp only [] at h1 h2 h3 h4 h5
  have : x2.toNat = x1.length := by omega
  rw [this, List.take_length, ← h4, List.take_length] at h5
  simp only [Rounds, toFn, h5]

theorem to_start {x : List α} (h : x.length ≤ maxLen) (d : α) : toPreB (x, ((0 : Int), (List.replicate (Int.toNat ((x.length : Nat) : Int)) d, ()))) = true := by
  rw [toPreB_iff]
  exact ⟨h, by simp, by simp, by simp, by simp⟩

/-! ### comparing -/
abbrev EqS (α : Type) := List α × (List α × (Int × Unit))
def eqPre : EqS α → Bool := fun s => decide (s.1.length ≤ maxLen) && decide (0 ≤ s.2.2.1) && decide (s.2.2.1.toNat ≤ s.1.length) && decide (s.2.1.length = s.1.length)
open Classical in
noncomputable def eqFn : EqS α → (Bool × Unit) ⊕ Unit := fun s => if s.1.drop s.2.2.1.toNat = s.2.1.drop s.2.2.1.toNat then .inr () else .inl (false, ())
def eqMu : EqS α → Nat := fun s => s.1.length - s.2.2.1.toNat

theorem eq_next {x1 x2 : List α} {x3 : Int} (hp : eqPre (x1, (x2, (x3, ()))) = true) (hlt : x3 < (x1.length : Int)) (d : α) :
    0 ≤ x3 ∧ x3 < (x2.length : Int) ∧ (x1.getD x3.toNat d = x2.getD x3.toNat d → Rounds eqPre eqMu eqFn (x1, (x2, (x3, ()))) (some (.inl (x1, (x2, (IntKind.wrap .i64 (x3 + 1), ())))))) ∧
      (¬ x1.getD x3.toNat d = x2.getD x3.toNat d → Rounds eqPre eqMu eqFn (x1, (x2, (x3, ()))) (some (.inr (.inl (false, ()))))) := by
  simp only [eqPre, Bool.and_eq_true, decide_eq_true_eq] at hp
  obtain ⟨⟨⟨h1, h2⟩, h3⟩, h4⟩ := hp
  have hM := maxLen_eq
  have hn : x3.toNat < x1.length := by omega
  have hn2 : x3.toNat < x2.length := by omega
  have e1 := List.drop_eq_getElem_cons hn
  have e2 := List.drop_eq_getElem_cons hn2
  rw [getD_get hn, getD_get hn2]
  refine ⟨h2, by omega, fun he => ?_, fun he => ?_⟩
  · simp only [Rounds, w64 (n := x3 + 1) (by omega) (by omega)]
    refine ⟨?_, by simp only [eqMu]; omega, ?_⟩
    · simp only [eqPre, Bool.and_eq_true, decide_eq_true_eq]
      exact ⟨⟨⟨h1, by omega⟩, by omega⟩, h4⟩
    · have hi : x1.drop (x3 + 1).toNat = x2.drop (x3 + 1).toNat ↔ x1.drop x3.toNat = x2.drop x3.toNat := by
        rw [show (x3 + 1).toNat = x3.toNat + 1 by omega, e1, e2, he, List.cons.injEq]; simp
      simp only [eqFn]
      by_cases hc : x1.drop x3.toNat = x2.drop x3.toNat
      · rw [if_pos hc, if_pos (hi.2 hc)]
      · rw [if_neg hc, if_neg (fun h => hc (hi.1 h))]
  · simp only [Rounds, eqFn]
    rw [if_neg]
    rw [e1, e2, List.cons.injEq]
    exact fun h => he h.1

theorem eq_end {x1 x2 : List α} {x3 : Int} (hp : eqPre (x1, (x2, (x3, ()))) = true) (hlt : ¬ x3 < (x1.length : Int)) :
    Rounds eqPre eqMu eqFn (x1, (x2, (x3, ()))) (some (.inr (.inr ()))) := by
  simp only [eqPre, Bool.and_eq_true, decide_eq_true_eq] at hp
  obtain ⟨⟨⟨h1, h2⟩, h3⟩, h4⟩ := hp
  simp only [Rounds, eqFn]
  rw [List.drop_eq_nil_of_le (by omega), List.drop_eq_nil_of_le (by omega), if_pos rfl]

theorem eq_start {x0 x1 : List α} (h : x0.length ≤ maxLen) (hl : (x0.length : Int) = (x1.length : Int)) : eqPre (x0, (x1, ((0 : Int), ()))) = true := by
  simp only [eqPre, Bool.and_eq_true, decide_eq_true_eq]
  exact ⟨⟨⟨h, by omega⟩, by omega⟩, by omega⟩

theorem eqFn_eq {x0 x1 : List α} (h : x0 = x1) : eqFn (x0, (x1, ((0 : Int), ()))) = .inr () := by
  unfold eqFn
  exact if_pos h
theorem eqFn_ne {x0 x1 : List α} (h : ¬ x0 = x1) : eqFn (x0, (x1, ((0 : Int), ()))) = .inl (false, ()) := by
  unfold eqFn
  exact if_neg h

/-! ### weighing -/
def szL (g : α → Int → Int) : List α → Int → Int
  | [], l => l
  | a :: r, l => if g a l < 0 then -1 else szL g r (g a l)
abbrev SzS (α : Type) := List α × (Int × (Int × Unit))
def szPre : SzS α → Bool := fun s => decide (s.1.length ≤ maxLen) && decide (0 ≤ s.2.2.1) && decide (s.2.2.1.toNat ≤ s.1.length) && decide (0 ≤ s.2.1)
def szFn (g : α → Int → Int) : SzS α → (Int × Unit) ⊕ (Int × Unit) := fun s => let r := szL g (s.1.drop s.2.2.1.toNat) s.2.1; if r < 0 then .inl (-1, ()) else .inr (r, ())
def szMu : SzS α → Nat := fun s => s.1.length - s.2.2.1.toNat

theorem sz_next {g : α → Int → Int} {x1 : List α} {x2 x3 : Int} (hp : szPre (x1, (x2, (x3, ()))) = true) (hlt : x3 < (x1.length : Int)) (d : α) :
    0 ≤ x3 ∧ (g (x1.getD x3.toNat d) x2 < 0 → Rounds szPre szMu (szFn g) (x1, (x2, (x3, ()))) (some (.inr (.inl (-1, ()))))) ∧
      (¬ g (x1.getD x3.toNat d) x2 < 0 → Rounds szPre szMu (szFn g) (x1, (x2, (x3, ()))) (some (.inl (x1, (g (x1.getD x3.toNat d) x2, (IntKind.wrap .i64 (x3 + 1), ())))))) := by
  simp only [szPre, Bool.and_eq_true, decide_eq_true_eq] at hp
  obtain ⟨⟨⟨h1, h2⟩, h3⟩, h4⟩ := hp
  have hM := maxLen_eq
  have hn : x3.toNat < x1.length := by omega
  have e1 := List.drop_eq_getElem_cons hn
  rw [getD_get hn]
  refine ⟨h2, fun he => ?_, fun he => ?_⟩
  · simp only [Rounds, szFn, e1, szL, he, if_true]
    rw [if_pos (by omega)]
  · simp only [Rounds, w64 (n := x3 + 1) (by omega) (by omega)]
    refine ⟨?_, by simp only [szMu]; omega, ?_⟩
    · simp only [szPre, Bool.and_eq_true, decide_eq_true_eq]
      exact ⟨⟨⟨h1, by omega⟩, by omega⟩, by omega⟩
    · simp only [szFn, show (x3 + 1).toNat = x3.toNat + 1 by omega, e1, szL, he, if_false]

theorem sz_end {g : α → Int → Int} {x1 : List α} {x2 x3 : Int} (hp : szPre (x1, (x2, (x3, ()))) = true) (hlt : ¬ x3 < (x1.length : Int)) :
    Rounds szPre szMu (szFn g) (x1, (x2, (x3, ()))) (some (.inr (.inr (x2, ())))) := by
  simp only [szPre, Bool.and_eq_true, decide_eq_true_eq] at hp
  obtain ⟨⟨⟨h1, h2⟩, h3⟩, h4⟩ := hp
  simp only [Rounds, szFn]
  rw [List.drop_eq_nil_of_le (by omega)]
  show _ = if x2 < 0 then _ else Sum.inr (x2, ())
  rw [if_neg (by omega)]

theorem sz_start {x : List α} (h : x.length ≤ maxLen) {l : Int} (h0 : ¬ l < 0) : szPre (x, (l, ((0 : Int), ()))) = true := by
  simp [szPre, h]; omega
end
end Go.Aw.Pl
