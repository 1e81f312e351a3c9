import Derived.Test.YtpcdhadfpeojkaaAxM
namespace Go.Aw.Pl
open Go Go.Aw
set_option linter.unusedVariables false
set_option linter.unusedSimpArgs false
theorem w64 {n : Int} (h1 : -9223372036854775808 ≤ n) (h2 : n ≤ 9223372036854775807) : IntKind.wrap .i64 n = n := by
  simp [IntKind.wrap, IntKind.signed, IntKind.bits]; omega
theorem maxLen_eq : maxLen = 9223372036854775807 := rfl
def small {α : Type} (xs : List α) : Bool := decide (xs.length ≤ 16777216)
theorem small_iff {α : Type} {xs : List α} : small xs = true ↔ xs.length ≤ 16777216 := by simp [small]
theorem getD_get {α : Type} {xs : List α} {i : Nat} {d : α} (h : i < xs.length) : xs.getD i d = xs[i] := by
  rw [List.getD_eq_getElem?_getD, List.getElem?_eq_getElem h]; rfl
def letB {α β : Type} (a : α) (f : α → β) : β := f a
open Classical in
noncomputable def same {α : Type} (a b : α) : Bool := decide (a = b)
theorem same_true {α : Type} {a b : α} : same a b = true ↔ a = b := by simp [same]
theorem same_false {α : Type} {a b : α} : same a b = false ↔ ¬ a = b := by simp [same]
theorem same_self {α : Type} (a : α) : same a a = true := same_true.2 rfl
theorem modify_const {α : Type} (l : List α) (i : Nat) (v : α) : l.modify i (fun _ => v) = l.set i v := by
  apply List.ext_getElem?
  intro j
  rw [List.getElem?_modify, List.getElem?_set]
  by_cases h : i = j
  · subst h
    rcases Nat.lt_or_ge i l.length with hl | hl
    · simp [hl]
    · simp [List.getElem?_eq_none hl, Nat.not_lt.2 hl]
  · simp [h]
section
variable {α : Type}
abbrev ToS (α : Type) := List α × (Int × (List α × Unit))
def toPre : ToS α → Prop := fun s => s.1.length ≤ maxLen ∧ 0 ≤ s.2.1 ∧ s.2.1.toNat ≤ s.1.length ∧ s.2.2.1.length = s.1.length ∧ s.2.2.1.take s.2.1.toNat = s.1.take s.2.1.toNat
open Classical in
noncomputable def toPreB (s : ToS α) : Bool := decide (toPre s)
def toFn : ToS α → List α × Unit := fun s => (s.1, ())
def toMu : ToS α → Nat := fun s => s.1.length - s.2.1.toNat
theorem toPreB_iff {s : ToS α} : toPreB s = true ↔ toPre s := by simp [toPreB]
theorem to_next {x1 : List α} {x2 : Int} {x3 : List α} (hp : toPreB (x1, (x2, (x3, ()))) = true) (hlt : x2 < (x1.length : Int)) (d : α) :
    x2 < (x3.length : Int) ∧ 0 ≤ x2 ∧ Rounds toPreB toMu toFn (x1, (x2, (x3, ()))) (some (.inl (x1, (IntKind.wrap .i64 (x2 + 1), (x3.modify x2.toNat (fun _ => x1.getD x2.toNat d), ()))))) := by
  rw [toPreB_iff] at hp
  obtain ⟨h1, h2, h3, h4, h5⟩ := hp
  simp only [] at h1 h2 h3 h4 h5
  have hM := maxLen_eq
  have hn : x2.toNat < x1.length := by omega
  refine ⟨by omega, h2, ?_⟩
  simp only [Rounds, w64 (n := x2 + 1) (by omega) (by omega), toPreB_iff]
  refine ⟨⟨h1, by show 0 ≤ x2 + 1; omega, by show (x2 + 1).toNat ≤ x1.length; omega, by show (List.modify _ _ _).length = _; rw [List.length_modify]; exact h4, ?_⟩, by simp only [toMu]; omega, rfl⟩
  show List.take (x2 + 1).toNat (x3.modify x2.toNat (fun _ => x1.getD x2.toNat d)) = List.take (x2 + 1).toNat x1
  rw [modify_const, show (x2 + 1).toNat = x2.toNat + 1 by omega, List.take_add_one, List.take_add_one, List.take_set_of_le (by omega), h5]
  congr 1
  rw [List.getElem?_set_self (by omega), getD_get hn, List.getElem?_eq_getElem hn]
theorem to_end {x1 : List α} {x2 : Int} {x3 : List α} (hp : toPreB (x1, (x2, (x3, ()))) = true) (hlt : ¬ x2 < (x1.length : Int)) :
    Rounds toPreB toMu toFn (x1, (x2, (x3, ()))) (some (.inr (x3, ()))) := by
  rw [toPreB_iff] at hp
  obtain ⟨h1, h2, h3, h4, h5⟩ := hp
  simp only [] at h1 h2 h3 h4 h5
  have : x2.toNat = x1.length := by omega
  rw [this, List.take_length, ← h4, List.take_length] at h5
  simp only [Rounds, toFn, h5]
theorem to_start {x : List α} (h : x.length ≤ maxLen) (d : α) : toPreB (x, ((0 : Int), (List.replicate (Int.toNat ((x.length : Nat) : Int)) d, ()))) = true := by
  rw [toPreB_iff]
  exact ⟨h, by simp, by simp, by simp, by simp⟩
abbrev EqS (α : Type) := List α × (List α × (Int × Unit))
def eqPre : EqS α → Bool := fun s => decide (s.1.length ≤ maxLen) && decide (0 ≤ s.2.2.1) && decide (s.2.2.1.toNat ≤ s.1.length) && decide (s.2.1.length = s.1.length)
open Classical in
noncomputable def eqFn : EqS α → (Bool × Unit) ⊕ Unit := fun s => if s.1.drop s.2.2.1.toNat = s.2.1.drop s.2.2.1.toNat then .inr () else .inl (false, ())
def eqMu : EqS α → Nat := fun s => s.1.length - s.2.2.1.toNat
theorem eq_next {x1 x2 : List α} {x3 : Int} (hp : eqPre (x1, (x2, (x3, ()))) = true) (hlt : x3 < (x1.length : Int)) (d : α) :
    0 ≤ x3 ∧ x3 < (x2.length : Int) ∧ (x1.getD x3.toNat d = x2.getD x3.toNat d → Rounds eqPre eqMu eqFn (x1, (x2, (x3, ()))) (some (.inl (x1, (x2, (IntKind.wrap .i64 (x3 + 1), ())))))) ∧
      (¬ x1.getD x3.toNat d = x2.getD x3.toNat d → Rounds eqPre eqMu eqFn (x1, (x2, (x3, ()))) (some (.inr (.inl (false, ()))))) := by
  simp only [eqPre, Bool.and_eq_true, decide_eq_true_eq] at hp
  obtain ⟨⟨⟨h1, h2⟩, h3⟩, h4⟩ := hp
  have hM := maxLen_eq
  have hn : x3.toNat < x1.length := by omega
  have hn2 : x3.toNat < x2.length := by omega
  have e1 := List.drop_eq_getElem_cons hn
  have e2 := List.drop_eq_getElem_cons hn2
  rw [getD_get hn, getD_get hn2]
  refine ⟨h2, by omega, fun he => ?_, fun he => ?_⟩
  · simp only [Rounds, w64 (n := x3 + 1) (by omega) (by omega)]
    refine ⟨?_, by simp only [eqMu]; omega, ?_⟩
    · simp only [eqPre, Bool.and_eq_true, decide_eq_true_eq]
      exact ⟨⟨⟨h1, by omega⟩, by omega⟩, h4⟩
    · have hi : x1.drop (x3 + 1).toNat = x2.drop (x3 + 1).toNat ↔ x1.drop x3.toNat = x2.drop x3.toNat := by
        rw [show (x3 + 1).toNat = x3.toNat + 1 by omega, e1, e2, he, List.cons.injEq]; simp
      simp only [eqFn]
      by_cases hc : x1.drop x3.toNat = x2.drop x3.toNat
      · rw [if_pos hc, if_pos (hi.2 hc)]
      · rw [if_neg hc, if_neg (fun h => hc (hi.1 h))]
  · simp only [Rounds, eqFn]
    rw [if_neg]
    rw [e1, e2, List.cons.injEq]
    exact fun h => he h.1
theorem eq_end {x1 x2 : List α} {x3 : Int} (hp : eqPre (x1, (x2, (x3, ()))) = true) (hlt : ¬ x3 < (x1.length : Int)) :
    Rounds eqPre eqMu eqFn (x1, (x2, (x3, ()))) (some (.inr (.inr ()))) := by
  simp only [eqPre, Bool.and_eq_true, decide_eq_true_eq] at hp
  obtain ⟨⟨⟨h1, h2⟩, h3⟩, h4⟩ := hp
  simp only [Rounds, eqFn]
  rw [List.drop_eq_nil_of_le (by omega), List.drop_eq_nil_of_le (by omega), if_pos rfl]
theorem eq_start {x0 x1 : List α} (h : x0.length ≤ maxLen) (hl : (x0.length : Int) = (x1.length : Int)) : eqPre (x0, (x1, ((0 : Int), ()))) = true := by
  simp only [eqPre, Bool.and_eq_true, decide_eq_true_eq]
  exact ⟨⟨⟨h, by omega⟩, by omega⟩, by omega⟩
theorem eqFn_eq {x0 x1 : List α} (h : x0 = x1) : eqFn (x0, (x1, ((0 : Int), ()))) = .inr () := by
  unfold eqFn
  exact if_pos h
theorem eqFn_ne {x0 x1 : List α} (h : ¬ x0 = x1) : eqFn (x0, (x1, ((0 : Int), ()))) = .inl (false, ()) := by
  unfold eqFn
  exact if_neg h
abbrev SzS (α : Type) := List α × (Int × (Int × Unit))
def szMu : SzS α → Nat := fun s => s.1.length - s.2.2.1.toNat
end
abbrev Mark := (Int × (Int × Unit))
abbrev Setup := (Int × (Int × Mark))
abbrev Disk := ((List Int) × (Int × Unit))
abbrev Item := (Int × ((List UInt8) × ((List UInt8) × Mark)))
abbrev Row := (Int × (Int × ((List Item) × Unit)))
abbrev Maker := (Int × (Int × (Int × (Int × ((List Mark) × Unit)))))
abbrev Answer := (Int × (Int × ((List UInt8) × ((List UInt8) × Unit))))
abbrev Heard := (Int × (Int × (Answer × Mark)))
abbrev Cmd := (Int × (Int × (Int × (Int × Answer))))
abbrev Entry := (Int × (Cmd × Unit))
abbrev Log := (Int × (Int × ((List Entry) × Unit)))
abbrev Group := (Int × ((List Int) × ((List Int) × ((List Int) × Unit))))
section
variable {α : Type}
def idxF (g : α → Bool) : List α → Int → Int
  | [], _ => -1
  | a :: r, i => if g a = true then i else idxF g r (i + 1)
theorem idxF_lo (g : α → Bool) : (xs : List α) → (i : Int) → 0 ≤ i → -1 ≤ idxF g xs i ∧ (0 ≤ idxF g xs i ↔ xs.any g = true)
  | [], i, h => by simp [idxF]
  | a :: r, i, h => by
    simp only [idxF, List.any_cons]
    by_cases ha : g a = true
    · simp [ha]; omega
    · have := idxF_lo g r (i + 1) (by omega)
      simp only [Bool.not_eq_true] at ha
      simp only [ha, Bool.false_eq_true, if_false, Bool.false_or]
      exact this
abbrev IxS (α : Type) := List α × ((α → Bool) × ((α → Bool) × (Int × (Int × Unit))))
def ixPre : IxS α → Bool := fun s => decide (s.1.length ≤ maxLen) && (decide (s.2.2.2.1 = (s.1.length : Int)) && (decide (0 ≤ s.2.2.2.2.1) && (decide (s.2.2.2.2.1.toNat ≤ s.1.length) && s.1.all s.2.1)))
def ixFn : IxS α → (Int × Unit) ⊕ Unit := fun s => if idxF s.2.2.1 (s.1.drop s.2.2.2.2.1.toNat) s.2.2.2.2.1 < 0 then .inr () else .inl (idxF s.2.2.1 (s.1.drop s.2.2.2.2.1.toNat) s.2.2.2.2.1, ())
def ixMu : IxS α → Nat := fun s => s.1.length - s.2.2.2.2.1.toNat
theorem ix_next {x1 : List α} {x2 x3 : α → Bool} {x4 x5 : Int} (hp : ixPre (x1, (x2, (x3, (x4, (x5, ()))))) = true) (hlt : x5 < x4) (d : α) :
    0 ≤ x5 ∧ x5 < (x1.length : Int) ∧ x2 (x1.getD x5.toNat d) = true ∧ (x3 (x1.getD x5.toNat d) = true → Rounds ixPre ixMu ixFn (x1, (x2, (x3, (x4, (x5, ()))))) (some (.inr (.inl (x5, ()))))) ∧
      (¬ x3 (x1.getD x5.toNat d) = true → Rounds ixPre ixMu ixFn (x1, (x2, (x3, (x4, (x5, ()))))) (some (.inl (x1, (x2, (x3, (x4, (IntKind.wrap .i64 (x5 + 1), ())))))))) := by
  simp only [ixPre, Bool.and_eq_true, decide_eq_true_eq] at hp
  obtain ⟨h1, rfl, h3, h4, h5⟩ := hp
  have hM := maxLen_eq
  have hn : x5.toNat < x1.length := by omega
  have e1 := List.drop_eq_getElem_cons hn
  rw [getD_get hn]
  refine ⟨h3, hlt, List.all_eq_true.1 h5 _ (List.getElem_mem hn), fun he => ?_, fun he => ?_⟩
  · simp only [Rounds, ixFn, e1, idxF, he, if_true]
    rw [if_neg (by omega)]
  · simp only [Rounds, w64 (n := x5 + 1) (by omega) (by omega)]
    refine ⟨?_, by simp only [ixMu]; omega, ?_⟩
    · simp only [ixPre, Bool.and_eq_true, decide_eq_true_eq]
      exact ⟨h1, trivial, by omega, by omega, h5⟩
    · simp only [ixFn, show (x5 + 1).toNat = x5.toNat + 1 by omega, e1, idxF, he, if_false]
      rfl
theorem ix_end {x1 : List α} {x2 x3 : α → Bool} {x4 x5 : Int} (hp : ixPre (x1, (x2, (x3, (x4, (x5, ()))))) = true) (hlt : ¬ x5 < x4) :
    Rounds ixPre ixMu ixFn (x1, (x2, (x3, (x4, (x5, ()))))) (some (.inr (.inr ()))) := by
  simp only [ixPre, Bool.and_eq_true, decide_eq_true_eq] at hp
  obtain ⟨h1, rfl, h3, h4, h5⟩ := hp
  simp only [Rounds, ixFn]
  rw [List.drop_eq_nil_of_le (by omega)]
  rfl
end
section
variable {α : Type}
def szN (w l : Int) : Int := if l - w < 0 then -1 else l - w
theorem szN_pos {w l : Int} (h : ¬ l - w < 0) : szN w l = l - w := if_neg h
theorem szN_neg {w l : Int} (h : l - w < 0) : szN w l = -1 := if_pos h
def sumW (w : α → Int) : List α → Int
  | [] => 0
  | a :: r => w a + sumW w r
def wL (w : α → Int) (xs : List α) : Int := xs.length + sumW w xs
theorem sumW_nn {w : α → Int} (h : ∀ x, 0 ≤ w x) : (xs : List α) → 0 ≤ sumW w xs
  | [] => by simp [sumW]
  | a :: r => by
    have := h a
    have := sumW_nn h r
    simp only [sumW]; omega
theorem wL_nn {w : α → Int} (h : ∀ x, 0 ≤ w x) (xs : List α) : (xs.length : Int) ≤ wL w xs := by
  have := sumW_nn h xs
  simp only [wL]; omega
theorem sumW_get {w : α → Int} (h : ∀ x, 0 ≤ w x) : {xs : List α} → {x : α} → x ∈ xs → w x ≤ sumW w xs
  | a :: r, x, hx => by
    have h1 := h a
    have h2 := sumW_nn h r
    rcases List.mem_cons.1 hx with rfl | hx
    · simp only [sumW]; omega
    · have := sumW_get h hx
      simp only [sumW]; omega
theorem wL_get {w : α → Int} (h : ∀ x, 0 ≤ w x) {xs : List α} {x : α} (hx : x ∈ xs) : w x ≤ wL w xs := by
  have := sumW_get h hx
  simp only [wL]; omega
def swPre : SzS α → Bool := fun s => decide (s.1.length ≤ maxLen) && (decide (0 ≤ s.2.2.1) && (decide (s.2.2.1.toNat ≤ s.1.length) && (decide (0 ≤ s.2.1) && decide (s.2.1 ≤ maxLen))))
def swFn (w : α → Int) : SzS α → (Int × Unit) ⊕ (Int × Unit) := fun s => if s.2.1 - sumW w (s.1.drop s.2.2.1.toNat) < 0 then .inl (-1, ()) else .inr (s.2.1 - sumW w (s.1.drop s.2.2.1.toNat), ())
theorem sw_facts {l i : Int} {xs : List α} (hp : swPre (xs, (l, (i, ()))) = true) : 0 ≤ i ∧ 0 ≤ l ∧ l ≤ maxLen := by
  simp only [swPre, Bool.and_eq_true, decide_eq_true_eq] at hp
  exact ⟨hp.2.1, hp.2.2.2.1, hp.2.2.2.2⟩
theorem sw_bad {w : α → Int} (hw : ∀ x, 0 ≤ w x) {l i : Int} {xs : List α} (hp : swPre (xs, (l, (i, ()))) = true) (hlt : i < (xs.length : Int)) (d : α)
    (h : l - w (xs.getD i.toNat d) < 0) : Rounds swPre szMu (swFn w) (xs, (l, (i, ()))) (some (.inr (.inl (-1, ())))) := by
  simp only [swPre, Bool.and_eq_true, decide_eq_true_eq] at hp
  obtain ⟨h1, h2, h3, h4, h5⟩ := hp
  have hn : i.toNat < xs.length := by omega
  rw [getD_get hn] at h
  have := sumW_nn hw (xs.drop (i.toNat + 1))
  simp only [Rounds, swFn]
  rw [List.drop_eq_getElem_cons hn, if_pos (by simp only [sumW]; omega)]
theorem sw_good {w : α → Int} (hw : ∀ x, 0 ≤ w x) {l i : Int} {xs : List α} (hp : swPre (xs, (l, (i, ()))) = true) (hlt : i < (xs.length : Int)) (d : α)
    (h : ¬ l - w (xs.getD i.toNat d) < 0) : Rounds swPre szMu (swFn w) (xs, (l, (i, ()))) (some (.inl (xs, (l - w (xs.getD i.toNat d), (IntKind.wrap .i64 (i + 1), ()))))) := by
  simp only [swPre, Bool.and_eq_true, decide_eq_true_eq] at hp
  obtain ⟨h1, h2, h3, h4, h5⟩ := hp
  have hM := maxLen_eq
  have hn : i.toNat < xs.length := by omega
  rw [getD_get hn] at h ⊢
  have := hw xs[i.toNat]
  have ei : (i + 1).toNat = i.toNat + 1 := by omega
  simp only [Rounds, w64 (n := i + 1) (by omega) (by omega)]
  refine ⟨?_, by simp only [szMu]; omega, ?_⟩
  · simp only [swPre, Bool.and_eq_true, decide_eq_true_eq, ei]; omega
  · simp only [swFn, ei]
    rw [List.drop_eq_getElem_cons hn]
    simp only [sumW, Int.sub_sub]
    rfl
theorem sw_end {w : α → Int} {l i : Int} {xs : List α} (hp : swPre (xs, (l, (i, ()))) = true) (hlt : ¬ i < (xs.length : Int)) :
    Rounds swPre szMu (swFn w) (xs, (l, (i, ()))) (some (.inr (.inr (l, ())))) := by
  simp only [swPre, Bool.and_eq_true, decide_eq_true_eq] at hp
  obtain ⟨h1, h2, h3, h4, h5⟩ := hp
  simp only [Rounds, swFn]
  rw [List.drop_eq_nil_of_le (by omega)]
  simp only [sumW, Int.sub_zero]
  rw [if_neg (by omega)]
theorem sw_start {xs : List α} (h : xs.length ≤ maxLen) {l : Int} (h0 : 0 ≤ l) (h1 : l ≤ maxLen) : swPre (xs, (l, ((0 : Int), ()))) = true := by
  simp only [swPre, Bool.and_eq_true, decide_eq_true_eq]; omega
theorem swFn_start {w : α → Int} (xs : List α) (l : Int) :
    (match swFn w (xs, (l - xs.length, ((0 : Int), ()))) with | .inl y => some ((), y) | .inr y => some ((), y)) = some ((), (szN (wL w xs) l, ())) := by
  have e : swFn w (xs, (l - xs.length, ((0 : Int), ()))) = if l - xs.length - sumW w xs < 0 then .inl (-1, ()) else .inr (l - xs.length - sumW w xs, ()) := rfl
  have e2 : l - wL w xs = l - xs.length - sumW w xs := by simp only [wL, Int.sub_sub]
  rw [e]
  by_cases h : l - xs.length - sumW w xs < 0
  · rw [if_pos h, szN_neg (by omega)]
  · rw [if_neg h, szN_pos (by omega), e2]
def tcPre (p : α → Bool) : ToS α → Prop := fun s => toPre s ∧ s.1.all p = true
open Classical in
noncomputable def tcPreB (p : α → Bool) (s : ToS α) : Bool := decide (tcPre p s)
theorem tcPreB_iff {p : α → Bool} {s : ToS α} : tcPreB p s = true ↔ tcPre p s := by simp [tcPreB]
theorem tc_facts {p : α → Bool} {x1 : List α} {x2 : Int} {x3 : List α} (hp : tcPreB p (x1, (x2, (x3, ()))) = true) (hlt : x2 < (x1.length : Int)) (d : α) :
    x2 < (x3.length : Int) ∧ 0 ≤ x2 ∧ p (x1.getD x2.toNat d) = true := by
  rw [tcPreB_iff] at hp
  obtain ⟨⟨h1, h2, h3, h4, h5⟩, h6⟩ := hp
  simp only [] at h1 h2 h3 h4 h5 h6
  refine ⟨by omega, h2, ?_⟩
  rw [getD_get (by omega)]
  exact List.all_eq_true.1 h6 _ (List.getElem_mem _)
theorem tc_step {p : α → Bool} {x1 : List α} {x2 : Int} {x3 : List α} (hp : tcPreB p (x1, (x2, (x3, ()))) = true) (hlt : x2 < (x1.length : Int)) (d : α) {f : α → α} (hf : f = fun _ => x1.getD x2.toNat d) :
    Rounds (tcPreB p) toMu toFn (x1, (x2, (x3, ()))) (some (.inl (x1, (IntKind.wrap .i64 (x2 + 1), (x3.modify x2.toNat f, ()))))) := by
  rw [tcPreB_iff] at hp
  have := (to_next (toPreB_iff.2 hp.1) hlt d).2.2
  rw [hf]
  simp only [Rounds] at *
  refine ⟨?_, this.2.1, this.2.2⟩
  rw [tcPreB_iff]
  exact ⟨toPreB_iff.1 this.1, hp.2⟩
theorem tc_end {p : α → Bool} {x1 : List α} {x2 : Int} {x3 : List α} (hp : tcPreB p (x1, (x2, (x3, ()))) = true) (hlt : ¬ x2 < (x1.length : Int)) :
    Rounds (tcPreB p) toMu toFn (x1, (x2, (x3, ()))) (some (.inr (x3, ()))) := by
  rw [tcPreB_iff] at hp
  exact to_end (toPreB_iff.2 hp.1) hlt
theorem tc_start {p : α → Bool} {x : List α} (h : x.length ≤ maxLen) (ha : x.all p = true) (d : α) : tcPreB p (x, ((0 : Int), (List.replicate (Int.toNat ((x.length : Nat) : Int)) d, ()))) = true := by
  rw [tcPreB_iff]
  exact ⟨toPreB_iff.1 (to_start h d), ha⟩
end
theorem sumW_zero {α : Type} {w : α → Int} (h : ∀ x, w x = 0) : (xs : List α) → sumW w xs = 0
  | [] => rfl
  | a :: r => by simp only [sumW, h, sumW_zero h r]; rfl
def w_Int (_ : Int) : Int := 0
theorem w_Int_nn (x : Int) : 0 ≤ w_Int x := Int.le_refl _
def w_Byte (_ : Int) : Int := 0
theorem w_Byte_nn (x : Int) : 0 ≤ w_Byte x := Int.le_refl _
def w_Bool (_ : Bool) : Int := 0
theorem w_Bool_nn (x : Bool) : 0 ≤ w_Bool x := Int.le_refl _
abbrev Keep := ((List Row) × ((List Maker) × ((List Group) × (Int × ((List Int) × ((List Answer) × Unit))))))
abbrev Hard := (Int × (Int × (Log × (Keep × Unit))))
abbrev Rpc := (Int × (Int × (Int × (Int × (Int × (Int × (Int × ((List Entry) × (Bool × ((List UInt8) × Unit))))))))))
abbrev Peer := (Int × (Hard × (Int × ((List Bool) × ((List Int) × ((List Int) × (Int × (Keep × (Disk × ((List Rpc) × Unit))))))))))
abbrev World := (Setup × (Int × ((List Peer) × ((List Rpc) × ((List Cmd) × ((List Int) × ((List Heard) × ((List Cmd) × Unit))))))))
noncomputable def laws_eqIntS (a b : List Int) : Bool := same a b
namespace laws_eqIntS
def pre4 := eqPre (α := Int)
noncomputable def fn4 := eqFn (α := Int)
def mu4 := eqMu (α := Int)
noncomputable def raw4 (x1 : (List Int)) (x2 : (List Int)) (x3 : Int) : Option (((List Int) × Disk) ⊕ ((Bool × Unit) ⊕ Unit)) :=
 if (decide (x3 < ((List.length x1 : Nat) : Int))) = true then
  if (decide ((0 : Int) ≤ x3)) = true then
   if (decide (x3 < ((List.length x1 : Nat) : Int))) = true then
    if (decide ((0 : Int) ≤ x3)) = true then
     if (decide (x3 < ((List.length x2 : Nat) : Int))) = true then
      if (!(decide ((List.getD x1 (Int.toNat x3) (0 : Int)) = (List.getD x2 (Int.toNat x3) (0 : Int))))) = true then
       some (.inr (.inl (false, ())))
      else
       some (.inl (x1, (x2, ((IntKind.wrap .i64 (x3 + (1 : Int))), ()))))
     else
      none
    else
     none
   else
    none
  else
   none
 else
  some (.inr (.inr ()))
abbrev wf (x0 : (List Int)) (x1 : (List Int)) : Prop := wfA [(.val (.sl 0 (.int .i64)) .f), (.val (.sl 0 (.int .i64)) .f)] (x0, (x1, ()))
noncomputable def raw (x0 : (List Int)) (x1 : (List Int)) : Option (Unit × (Bool × Unit)) :=
 if (!(decide (((List.length x0 : Nat) : Int) = ((List.length x1 : Nat) : Int)))) = true then
  some ((), (false, ()))
 else
  if (laws_eqIntS.pre4 (x0, (x1, ((0 : Int), ())))) = true then
   letB (laws_eqIntS.fn4 (x0, (x1, ((0 : Int), ())))) fun v1 =>
   match v1 with
   | .inl y =>
    some ((), y)
   | .inr y =>
    some ((), (true, ()))
  else
   none
theorem ok4 (x1 x2 : List Int) (x3 : Int) (hp : pre4 (x1, (x2, (x3, ()))) = true) : Rounds pre4 mu4 fn4 (x1, (x2, (x3, ()))) (raw4 x1 x2 x3) := by
  unfold raw4
  by_cases hlt : x3 < (x1.length : Int)
  · obtain ⟨h1, h2, h3, h4⟩ := eq_next hp hlt (0 : Int)
    simp only [letB, hlt, h1, h2, decide_true, if_true]
    by_cases h : x1.getD x3.toNat (0 : Int) = x2.getD x3.toNat (0 : Int)
    · rw [if_neg (by simp only [h, decide_true, Bool.not_true, Bool.false_eq_true, not_false_eq_true])]; exact h3 h
    · rw [if_pos (by simp only [h, decide_false, Bool.not_false])]; exact h4 h
  · simp only [hlt, decide_false, Bool.false_eq_true, if_false]
    exact eq_end hp hlt
theorem eq (x0 x1 : List Int) (hw : wf x0 x1) : raw x0 x1 = some ((), (laws_eqIntS x0 x1, ())) := by
  have h1 : x0.length ≤ maxLen := hw.1.1
  unfold raw laws_eqIntS
  by_cases hl : (x0.length : Int) = (x1.length : Int)
  · rw [if_neg (by simp [hl]), if_pos (show pre4 _ = true from eq_start h1 hl)]
    unfold fn4
    by_cases he : x0 = x1
    · rw [eqFn_eq he, same_true.2 he]; rfl
    · rw [eqFn_ne he, same_false.2 he]; rfl
  · have : ¬ x0 = x1 := fun h => hl (by rw [h])
    rw [if_pos (by simp [hl]), same_false.2 this]
end laws_eqIntS
def laws_toIntS (xs : List Int) : List Int := xs
namespace laws_toIntS
def pre (xs : List Int) : Bool := small xs && xs.all (fun _ => true)
noncomputable def pre3 := tcPreB (α := Int) (fun _ => true)
def fn3 := toFn (α := Int)
def mu3 := toMu (α := Int)
noncomputable def raw3 (x1 : (List Int)) (x2 : Int) (x3 : (List Int)) : Option (((List Int) × (Int × ((List Int) × Unit))) ⊕ ((List Int) × Unit)) :=
 if (decide (x2 < ((List.length x1 : Nat) : Int))) = true then
  if (decide ((0 : Int) ≤ x2)) = true then
   if (decide (x2 < ((List.length x1 : Nat) : Int))) = true then
    if (decide ((0 : Int) ≤ x2)) = true then
     if (decide (x2 < ((List.length x3 : Nat) : Int))) = true then
      some (.inl (x1, ((IntKind.wrap .i64 (x2 + (1 : Int))), ((List.modify x3 (Int.toNat x2) (fun z => (List.getD x1 (Int.toNat x2) (0 : Int)))), ()))))
     else
      none
    else
     none
   else
    none
  else
   none
 else
  some (.inr (x3, ()))
abbrev wf (x0 : (List Int)) : Prop := wfA [(.val (.sl 0 (.int .i64)) .f)] (x0, ())
noncomputable def raw (x0 : (List Int)) : Option (Unit × ((List Int) × Unit)) :=
 if (decide ((0 : Int) ≤ ((List.length x0 : Nat) : Int))) = true then
  if (decide (((List.length x0 : Nat) : Int) ≤ ((List.length x0 : Nat) : Int))) = true then
   if (decide (((List.length x0 : Nat) : Int) ≤ (4294967296 : Int))) = true then
    if (laws_toIntS.pre3 (x0, ((0 : Int), ((List.replicate (Int.toNat ((List.length x0 : Nat) : Int)) (0 : Int)), ())))) = true then
     letB (laws_toIntS.fn3 (x0, ((0 : Int), ((List.replicate (Int.toNat ((List.length x0 : Nat) : Int)) (0 : Int)), ())))) fun v1 =>
     some ((), v1)
    else
     none
   else
    none
  else
   none
 else
  none
theorem ok3 (x1 : List Int) (x2 : Int) (x3 : List Int) (hp : pre3 (x1, (x2, (x3, ()))) = true) : Rounds pre3 mu3 fn3 (x1, (x2, (x3, ()))) (raw3 x1 x2 x3) := by
  unfold raw3
  by_cases hlt : x2 < (x1.length : Int)
  · obtain ⟨h1, h2, h3⟩ := tc_facts hp hlt (0 : Int)
    simp only [letB, hlt, h1, h2, h3, decide_true, if_true]
    exact tc_step hp hlt (0 : Int) rfl
  · rw [if_neg (by simp [hlt])]; exact tc_end hp hlt
theorem eq (x0 : List Int) (hw : wf x0) (hp : pre x0 = true) : raw x0 = some ((), (laws_toIntS x0, ())) := by
  have h1 : x0.length ≤ maxLen := hw.1.1
  simp only [pre, Bool.and_eq_true, small_iff] at hp
  unfold raw
  rw [if_pos (by simp), if_pos (by simp), if_pos (by simp; omega), if_pos (show pre3 _ = true from tc_start h1 hp.2 _)]
  rfl
end laws_toIntS
theorem toIntS_pre {xs : List Int} (h : wL w_Int xs ≤ 16777216) : laws_toIntS.pre xs = true := by
  have hl := wL_nn w_Int_nn xs
  simp only [laws_toIntS.pre, Bool.and_eq_true, small_iff]
  exact ⟨by omega, by simp⟩
def laws_szIntS (xs : List Int) (l : Int) : Int := szN (wL w_Int xs) l
namespace laws_szIntS
def pre (_ : List Int) (l : Int) : Bool := decide (0 ≤ l) && decide (l ≤ maxLen)
abbrev wf (x0 : (List Int)) (x1 : Int) : Prop := wfA [(.val (.sl 0 (.int .i64)) .f), (.val (.int .i64) .f)] (x0, (x1, ()))
noncomputable def raw (x0 : (List Int)) (x1 : Int) : Option (Unit × (Int × Unit)) :=
 if (decide ((IntKind.wrap .i64 (x1 - ((List.length x0 : Nat) : Int))) < (0 : Int))) = true then
  some ((), ((-1 : Int), ()))
 else
  some ((), ((IntKind.wrap .i64 (x1 - ((List.length x0 : Nat) : Int))), ()))
theorem eq (x0 : List Int) (x1 : Int) (hw : wf x0 x1) (hp : pre x0 x1 = true) : raw x0 x1 = some ((), (laws_szIntS x0 x1, ())) := by
  have h1 : x0.length ≤ maxLen := hw.1.1
  simp only [pre, Bool.and_eq_true, decide_eq_true_eq] at hp
  have hM := maxLen_eq
  have hnn := sumW_nn w_Int_nn x0
  unfold raw
  rw [w64 (n := x1 - (x0.length : Int)) (by omega) (by omega)]
  by_cases c : x1 - (x0.length : Int) < 0
  · rw [if_pos (decide_eq_true c), show laws_szIntS x0 x1 = -1 from szN_neg (by simp only [wL]; omega)]
  · have hz : sumW w_Int x0 = 0 := sumW_zero (fun _ => rfl) x0
    rw [if_neg (by rw [decide_eq_true_eq]; exact c), show laws_szIntS x0 x1 = x1 - (x0.length : Int) from by rw [laws_szIntS, szN_pos (by simp only [wL]; omega)]; simp only [wL]; omega]
end laws_szIntS
noncomputable def laws_eqByteS (a b : List Int) : Bool := same a b
namespace laws_eqByteS
def pre4 := eqPre (α := Int)
noncomputable def fn4 := eqFn (α := Int)
def mu4 := eqMu (α := Int)
noncomputable def raw4 (x1 : (List Int)) (x2 : (List Int)) (x3 : Int) : Option (((List Int) × Disk) ⊕ ((Bool × Unit) ⊕ Unit)) :=
 if (decide (x3 < ((List.length x1 : Nat) : Int))) = true then
  if (decide ((0 : Int) ≤ x3)) = true then
   if (decide (x3 < ((List.length x1 : Nat) : Int))) = true then
    if (decide ((0 : Int) ≤ x3)) = true then
     if (decide (x3 < ((List.length x2 : Nat) : Int))) = true then
      if (!(decide ((List.getD x1 (Int.toNat x3) (0 : Int)) = (List.getD x2 (Int.toNat x3) (0 : Int))))) = true then
       some (.inr (.inl (false, ())))
      else
       some (.inl (x1, (x2, ((IntKind.wrap .i64 (x3 + (1 : Int))), ()))))
     else
      none
    else
     none
   else
    none
  else
   none
 else
  some (.inr (.inr ()))
abbrev wf (x0 : (List Int)) (x1 : (List Int)) : Prop := wfA [(.val (.sl 0 (.int .u8)) .f), (.val (.sl 0 (.int .u8)) .f)] (x0, (x1, ()))
noncomputable def raw (x0 : (List Int)) (x1 : (List Int)) : Option (Unit × (Bool × Unit)) :=
 if (!(decide (((List.length x0 : Nat) : Int) = ((List.length x1 : Nat) : Int)))) = true then
  some ((), (false, ()))
 else
  if (laws_eqByteS.pre4 (x0, (x1, ((0 : Int), ())))) = true then
   letB (laws_eqByteS.fn4 (x0, (x1, ((0 : Int), ())))) fun v1 =>
   match v1 with
   | .inl y =>
    some ((), y)
   | .inr y =>
    some ((), (true, ()))
  else
   none
theorem ok4 (x1 x2 : List Int) (x3 : Int) (hp : pre4 (x1, (x2, (x3, ()))) = true) : Rounds pre4 mu4 fn4 (x1, (x2, (x3, ()))) (raw4 x1 x2 x3) := by
  unfold raw4
  by_cases hlt : x3 < (x1.length : Int)
  · obtain ⟨h1, h2, h3, h4⟩ := eq_next hp hlt (0 : Int)
    simp only [letB, hlt, h1, h2, decide_true, if_true]
    by_cases h : x1.getD x3.toNat (0 : Int) = x2.getD x3.toNat (0 : Int)
    · rw [if_neg (by simp only [h, decide_true, Bool.not_true, Bool.false_eq_true, not_false_eq_true])]; exact h3 h
    · rw [if_pos (by simp only [h, decide_false, Bool.not_false])]; exact h4 h
  · simp only [hlt, decide_false, Bool.false_eq_true, if_false]
    exact eq_end hp hlt
theorem eq (x0 x1 : List Int) (hw : wf x0 x1) : raw x0 x1 = some ((), (laws_eqByteS x0 x1, ())) := by
  have h1 : x0.length ≤ maxLen := hw.1.1
  unfold raw laws_eqByteS
  by_cases hl : (x0.length : Int) = (x1.length : Int)
  · rw [if_neg (by simp [hl]), if_pos (show pre4 _ = true from eq_start h1 hl)]
    unfold fn4
    by_cases he : x0 = x1
    · rw [eqFn_eq he, same_true.2 he]; rfl
    · rw [eqFn_ne he, same_false.2 he]; rfl
  · have : ¬ x0 = x1 := fun h => hl (by rw [h])
    rw [if_pos (by simp [hl]), same_false.2 this]
end laws_eqByteS
def laws_toByteS (xs : List Int) : List Int := xs
namespace laws_toByteS
def pre (xs : List Int) : Bool := small xs && xs.all (fun _ => true)
noncomputable def pre3 := tcPreB (α := Int) (fun _ => true)
def fn3 := toFn (α := Int)
def mu3 := toMu (α := Int)
noncomputable def raw3 (x1 : (List Int)) (x2 : Int) (x3 : (List Int)) : Option (((List Int) × (Int × ((List Int) × Unit))) ⊕ ((List Int) × Unit)) :=
 if (decide (x2 < ((List.length x1 : Nat) : Int))) = true then
  if (decide ((0 : Int) ≤ x2)) = true then
   if (decide (x2 < ((List.length x1 : Nat) : Int))) = true then
    if (decide ((0 : Int) ≤ x2)) = true then
     if (decide (x2 < ((List.length x3 : Nat) : Int))) = true then
      some (.inl (x1, ((IntKind.wrap .i64 (x2 + (1 : Int))), ((List.modify x3 (Int.toNat x2) (fun z => (List.getD x1 (Int.toNat x2) (0 : Int)))), ()))))
     else
      none
    else
     none
   else
    none
  else
   none
 else
  some (.inr (x3, ()))
abbrev wf (x0 : (List Int)) : Prop := wfA [(.val (.sl 0 (.int .u8)) .f)] (x0, ())
noncomputable def raw (x0 : (List Int)) : Option (Unit × ((List Int) × Unit)) :=
 if (decide ((0 : Int) ≤ ((List.length x0 : Nat) : Int))) = true then
  if (decide (((List.length x0 : Nat) : Int) ≤ ((List.length x0 : Nat) : Int))) = true then
   if (decide (((List.length x0 : Nat) : Int) ≤ (4294967296 : Int))) = true then
    if (laws_toByteS.pre3 (x0, ((0 : Int), ((List.replicate (Int.toNat ((List.length x0 : Nat) : Int)) (0 : Int)), ())))) = true then
     letB (laws_toByteS.fn3 (x0, ((0 : Int), ((List.replicate (Int.toNat ((List.length x0 : Nat) : Int)) (0 : Int)), ())))) fun v1 =>
     some ((), v1)
    else
     none
   else
    none
  else
   none
 else
  none
theorem ok3 (x1 : List Int) (x2 : Int) (x3 : List Int) (hp : pre3 (x1, (x2, (x3, ()))) = true) : Rounds pre3 mu3 fn3 (x1, (x2, (x3, ()))) (raw3 x1 x2 x3) := by
  unfold raw3
  by_cases hlt : x2 < (x1.length : Int)
  · obtain ⟨h1, h2, h3⟩ := tc_facts hp hlt (0 : Int)
    simp only [letB, hlt, h1, h2, h3, decide_true, if_true]
    exact tc_step hp hlt (0 : Int) rfl
  · rw [if_neg (by simp [hlt])]; exact tc_end hp hlt
theorem eq (x0 : List Int) (hw : wf x0) (hp : pre x0 = true) : raw x0 = some ((), (laws_toByteS x0, ())) := by
  have h1 : x0.length ≤ maxLen := hw.1.1
  simp only [pre, Bool.and_eq_true, small_iff] at hp
  unfold raw
  rw [if_pos (by simp), if_pos (by simp), if_pos (by simp; omega), if_pos (show pre3 _ = true from tc_start h1 hp.2 _)]
  rfl
end laws_toByteS
theorem toByteS_pre {xs : List Int} (h : wL w_Byte xs ≤ 16777216) : laws_toByteS.pre xs = true := by
  have hl := wL_nn w_Byte_nn xs
  simp only [laws_toByteS.pre, Bool.and_eq_true, small_iff]
  exact ⟨by omega, by simp⟩
def laws_szByteS (xs : List Int) (l : Int) : Int := szN (wL w_Byte xs) l
namespace laws_szByteS
def pre (_ : List Int) (l : Int) : Bool := decide (0 ≤ l) && decide (l ≤ maxLen)
abbrev wf (x0 : (List Int)) (x1 : Int) : Prop := wfA [(.val (.sl 0 (.int .u8)) .f), (.val (.int .i64) .f)] (x0, (x1, ()))
noncomputable def raw (x0 : (List Int)) (x1 : Int) : Option (Unit × (Int × Unit)) :=
 if (decide ((IntKind.wrap .i64 (x1 - ((List.length x0 : Nat) : Int))) < (0 : Int))) = true then
  some ((), ((-1 : Int), ()))
 else
  some ((), ((IntKind.wrap .i64 (x1 - ((List.length x0 : Nat) : Int))), ()))
theorem eq (x0 : List Int) (x1 : Int) (hw : wf x0 x1) (hp : pre x0 x1 = true) : raw x0 x1 = some ((), (laws_szByteS x0 x1, ())) := by
  have h1 : x0.length ≤ maxLen := hw.1.1
  simp only [pre, Bool.and_eq_true, decide_eq_true_eq] at hp
  have hM := maxLen_eq
  have hnn := sumW_nn w_Byte_nn x0
  unfold raw
  rw [w64 (n := x1 - (x0.length : Int)) (by omega) (by omega)]
  by_cases c : x1 - (x0.length : Int) < 0
  · rw [if_pos (decide_eq_true c), show laws_szByteS x0 x1 = -1 from szN_neg (by simp only [wL]; omega)]
  · have hz : sumW w_Byte x0 = 0 := sumW_zero (fun _ => rfl) x0
    rw [if_neg (by rw [decide_eq_true_eq]; exact c), show laws_szByteS x0 x1 = x1 - (x0.length : Int) from by rw [laws_szByteS, szN_pos (by simp only [wL]; omega)]; simp only [wL]; omega]
end laws_szByteS
noncomputable def laws_eqBoolS (a b : List Bool) : Bool := same a b
namespace laws_eqBoolS
def pre4 := eqPre (α := Bool)
noncomputable def fn4 := eqFn (α := Bool)
def mu4 := eqMu (α := Bool)
noncomputable def raw4 (x1 : (List Bool)) (x2 : (List Bool)) (x3 : Int) : Option (((List Bool) × ((List Bool) × (Int × Unit))) ⊕ ((Bool × Unit) ⊕ Unit)) :=
 if (decide (x3 < ((List.length x1 : Nat) : Int))) = true then
  if (decide ((0 : Int) ≤ x3)) = true then
   if (decide (x3 < ((List.length x1 : Nat) : Int))) = true then
    if (decide ((0 : Int) ≤ x3)) = true then
     if (decide (x3 < ((List.length x2 : Nat) : Int))) = true then
      if (!((List.getD x1 (Int.toNat x3) false) == (List.getD x2 (Int.toNat x3) false))) = true then
       some (.inr (.inl (false, ())))
      else
       some (.inl (x1, (x2, ((IntKind.wrap .i64 (x3 + (1 : Int))), ()))))
     else
      none
    else
     none
   else
    none
  else
   none
 else
  some (.inr (.inr ()))
abbrev wf (x0 : (List Bool)) (x1 : (List Bool)) : Prop := wfA [(.val (.sl 0 .bool) .f), (.val (.sl 0 .bool) .f)] (x0, (x1, ()))
noncomputable def raw (x0 : (List Bool)) (x1 : (List Bool)) : Option (Unit × (Bool × Unit)) :=
 if (!(decide (((List.length x0 : Nat) : Int) = ((List.length x1 : Nat) : Int)))) = true then
  some ((), (false, ()))
 else
  if (laws_eqBoolS.pre4 (x0, (x1, ((0 : Int), ())))) = true then
   letB (laws_eqBoolS.fn4 (x0, (x1, ((0 : Int), ())))) fun v1 =>
   match v1 with
   | .inl y =>
    some ((), y)
   | .inr y =>
    some ((), (true, ()))
  else
   none
theorem ok4 (x1 x2 : List Bool) (x3 : Int) (hp : pre4 (x1, (x2, (x3, ()))) = true) : Rounds pre4 mu4 fn4 (x1, (x2, (x3, ()))) (raw4 x1 x2 x3) := by
  unfold raw4
  by_cases hlt : x3 < (x1.length : Int)
  · obtain ⟨h1, h2, h3, h4⟩ := eq_next hp hlt false
    simp only [letB, hlt, h1, h2, decide_true, if_true]
    by_cases h : x1.getD x3.toNat false = x2.getD x3.toNat false
    · rw [if_neg (by rw [h]; simp)]; exact h3 h
    · rw [if_pos (by rw [beq_false_of_ne h]; rfl)]; exact h4 h
  · simp only [hlt, decide_false, Bool.false_eq_true, if_false]
    exact eq_end hp hlt
theorem eq (x0 x1 : List Bool) (hw : wf x0 x1) : raw x0 x1 = some ((), (laws_eqBoolS x0 x1, ())) := by
  have h1 : x0.length ≤ maxLen := hw.1.1
  unfold raw laws_eqBoolS
  by_cases hl : (x0.length : Int) = (x1.length : Int)
  · rw [if_neg (by simp [hl]), if_pos (show pre4 _ = true from eq_start h1 hl)]
    unfold fn4
    by_cases he : x0 = x1
    · rw [eqFn_eq he, same_true.2 he]; rfl
    · rw [eqFn_ne he, same_false.2 he]; rfl
  · have : ¬ x0 = x1 := fun h => hl (by rw [h])
    rw [if_pos (by simp [hl]), same_false.2 this]
end laws_eqBoolS
def laws_toBoolS (xs : List Bool) : List Bool := xs
namespace laws_toBoolS
def pre (xs : List Bool) : Bool := small xs && xs.all (fun _ => true)
noncomputable def pre3 := tcPreB (α := Bool) (fun _ => true)
def fn3 := toFn (α := Bool)
def mu3 := toMu (α := Bool)
noncomputable def raw3 (x1 : (List Bool)) (x2 : Int) (x3 : (List Bool)) : Option (((List Bool) × (Int × ((List Bool) × Unit))) ⊕ ((List Bool) × Unit)) :=
 if (decide (x2 < ((List.length x1 : Nat) : Int))) = true then
  if (decide ((0 : Int) ≤ x2)) = true then
   if (decide (x2 < ((List.length x1 : Nat) : Int))) = true then
    if (decide ((0 : Int) ≤ x2)) = true then
     if (decide (x2 < ((List.length x3 : Nat) : Int))) = true then
      some (.inl (x1, ((IntKind.wrap .i64 (x2 + (1 : Int))), ((List.modify x3 (Int.toNat x2) (fun z => (List.getD x1 (Int.toNat x2) false))), ()))))
     else
      none
    else
     none
   else
    none
  else
   none
 else
  some (.inr (x3, ()))
abbrev wf (x0 : (List Bool)) : Prop := wfA [(.val (.sl 0 .bool) .f)] (x0, ())
noncomputable def raw (x0 : (List Bool)) : Option (Unit × ((List Bool) × Unit)) :=
 if (decide ((0 : Int) ≤ ((List.length x0 : Nat) : Int))) = true then
  if (decide (((List.length x0 : Nat) : Int) ≤ ((List.length x0 : Nat) : Int))) = true then
   if (decide (((List.length x0 : Nat) : Int) ≤ (4294967296 : Int))) = true then
    if (laws_toBoolS.pre3 (x0, ((0 : Int), ((List.replicate (Int.toNat ((List.length x0 : Nat) : Int)) false), ())))) = true then
     letB (laws_toBoolS.fn3 (x0, ((0 : Int), ((List.replicate (Int.toNat ((List.length x0 : Nat) : Int)) false), ())))) fun v1 =>
     some ((), v1)
    else
     none
   else
    none
  else
   none
 else
  none
theorem ok3 (x1 : List Bool) (x2 : Int) (x3 : List Bool) (hp : pre3 (x1, (x2, (x3, ()))) = true) : Rounds pre3 mu3 fn3 (x1, (x2, (x3, ()))) (raw3 x1 x2 x3) := by
  unfold raw3
  by_cases hlt : x2 < (x1.length : Int)
  · obtain ⟨h1, h2, h3⟩ := tc_facts hp hlt false
    simp only [letB, hlt, h1, h2, h3, decide_true, if_true]
    exact tc_step hp hlt false rfl
  · rw [if_neg (by simp [hlt])]; exact tc_end hp hlt
theorem eq (x0 : List Bool) (hw : wf x0) (hp : pre x0 = true) : raw x0 = some ((), (laws_toBoolS x0, ())) := by
  have h1 : x0.length ≤ maxLen := hw.1.1
  simp only [pre, Bool.and_eq_true, small_iff] at hp
  unfold raw
  rw [if_pos (by simp), if_pos (by simp), if_pos (by simp; omega), if_pos (show pre3 _ = true from tc_start h1 hp.2 _)]
  rfl
end laws_toBoolS
theorem toBoolS_pre {xs : List Bool} (h : wL w_Bool xs ≤ 16777216) : laws_toBoolS.pre xs = true := by
  have hl := wL_nn w_Bool_nn xs
  simp only [laws_toBoolS.pre, Bool.and_eq_true, small_iff]
  exact ⟨by omega, by simp⟩
def laws_szBoolS (xs : List Bool) (l : Int) : Int := szN (wL w_Bool xs) l
namespace laws_szBoolS
def pre (_ : List Bool) (l : Int) : Bool := decide (0 ≤ l) && decide (l ≤ maxLen)
abbrev wf (x0 : (List Bool)) (x1 : Int) : Prop := wfA [(.val (.sl 0 .bool) .f), (.val (.int .i64) .f)] (x0, (x1, ()))
noncomputable def raw (x0 : (List Bool)) (x1 : Int) : Option (Unit × (Int × Unit)) :=
 if (decide ((IntKind.wrap .i64 (x1 - ((List.length x0 : Nat) : Int))) < (0 : Int))) = true then
  some ((), ((-1 : Int), ()))
 else
  some ((), ((IntKind.wrap .i64 (x1 - ((List.length x0 : Nat) : Int))), ()))
theorem eq (x0 : List Bool) (x1 : Int) (hw : wf x0 x1) (hp : pre x0 x1 = true) : raw x0 x1 = some ((), (laws_szBoolS x0 x1, ())) := by
  have h1 : x0.length ≤ maxLen := hw.1.1
  simp only [pre, Bool.and_eq_true, decide_eq_true_eq] at hp
  have hM := maxLen_eq
  have hnn := sumW_nn w_Bool_nn x0
  unfold raw
  rw [w64 (n := x1 - (x0.length : Int)) (by omega) (by omega)]
  by_cases c : x1 - (x0.length : Int) < 0
  · rw [if_pos (decide_eq_true c), show laws_szBoolS x0 x1 = -1 from szN_neg (by simp only [wL]; omega)]
  · have hz : sumW w_Bool x0 = 0 := sumW_zero (fun _ => rfl) x0
    rw [if_neg (by rw [decide_eq_true_eq]; exact c), show laws_szBoolS x0 x1 = x1 - (x0.length : Int) from by rw [laws_szBoolS, szN_pos (by simp only [wL]; omega)]; simp only [wL]; omega]
end laws_szBoolS
noncomputable def laws_eqSetup (a b : Setup) : Bool := same a b
namespace laws_eqSetup
abbrev wf (x0 : Setup) (x1 : Setup) : Prop := wfA [(.val (.pair (.int .i64) (.pair (.int .i64) (.pair (.int .i64) (.pair (.int .i64) .unit)))) .f), (.val (.pair (.int .i64) (.pair (.int .i64) (.pair (.int .i64) (.pair (.int .i64) .unit)))) .f)] (x0, (x1, ()))
noncomputable def raw (x0 : Setup) (x1 : Setup) : Option (Unit × (Bool × Unit)) :=
 if (!(decide (x0.1 = x1.1))) = true then
  some ((), (false, ()))
 else
  if (!(decide (x0.2.1 = x1.2.1))) = true then
   some ((), (false, ()))
  else
   if (!(decide (x0.2.2.1 = x1.2.2.1))) = true then
    some ((), (false, ()))
   else
    if (!(decide (x0.2.2.2.1 = x1.2.2.2.1))) = true then
     some ((), (false, ()))
    else
     some ((), (true, ()))
theorem eq (x0 x1 : Setup) (_ : wf x0 x1) : raw x0 x1 = some ((), (laws_eqSetup x0 x1, ())) := by
  unfold raw laws_eqSetup
  try simp only [letB]
  by_cases c0 : x0.1 = x1.1
  case neg => rw [if_pos (by simp [c0]), same_false.2 (fun h => c0 (congrArg (fun z : Setup => z.1) h))]
  rw [if_neg (by simp [c0])]
  by_cases c1 : x0.2.1 = x1.2.1
  case neg => rw [if_pos (by simp [c1]), same_false.2 (fun h => c1 (congrArg (fun z : Setup => z.2.1) h))]
  rw [if_neg (by simp [c1])]
  by_cases c2 : x0.2.2.1 = x1.2.2.1
  case neg => rw [if_pos (by simp [c2]), same_false.2 (fun h => c2 (congrArg (fun z : Setup => z.2.2.1) h))]
  rw [if_neg (by simp [c2])]
  by_cases c3 : x0.2.2.2.1 = x1.2.2.2.1
  case neg => rw [if_pos (by simp [c3]), same_false.2 (fun h => c3 (congrArg (fun z : Setup => z.2.2.2.1) h))]
  rw [if_neg (by simp [c3])]
  rw [same_true.2 (Prod.ext c0 (Prod.ext c1 (Prod.ext c2 (Prod.ext c3 rfl))))]
end laws_eqSetup
def laws_toSetup (x : Setup) : Setup := x
namespace laws_toSetup
abbrev wf (x0 : Setup) : Prop := wfA [(.val (.pair (.int .i64) (.pair (.int .i64) (.pair (.int .i64) (.pair (.int .i64) .unit)))) .f)] (x0, ())
noncomputable def raw (x0 : Setup) : Option (Unit × (Setup × Unit)) :=
 some ((), (x0, ()))
theorem eq (x0 : Setup) (_ : wf x0) : raw x0 = some ((), (laws_toSetup x0, ())) := rfl
end laws_toSetup
def w_Cmd (x : Cmd) : Int := (x.2.2.2.2.2.2.1.length : Int) + (x.2.2.2.2.2.2.2.1.length : Int)
theorem w_Cmd_nn (x : Cmd) : 0 ≤ w_Cmd x := by
  simp only [w_Cmd]; omega
noncomputable def laws_eqCmd (a b : Cmd) : Bool := same a b
namespace laws_eqCmd
abbrev wf (x0 : Cmd) (x1 : Cmd) : Prop := wfA [(.val (.pair (.int .i64) (.pair (.int .i64) (.pair (.int .i64) (.pair (.int .i64) (.pair (.int .i64) (.pair (.int .i64) (.pair .str (.pair .str .unit)))))))) .f), (.val (.pair (.int .i64) (.pair (.int .i64) (.pair (.int .i64) (.pair (.int .i64) (.pair (.int .i64) (.pair (.int .i64) (.pair .str (.pair .str .unit)))))))) .f)] (x0, (x1, ()))
noncomputable def raw (x0 : Cmd) (x1 : Cmd) : Option (Unit × (Bool × Unit)) :=
 if (!(decide (x0.1 = x1.1))) = true then
  some ((), (false, ()))
 else
  if (!(decide (x0.2.1 = x1.2.1))) = true then
   some ((), (false, ()))
  else
   if (!(decide (x0.2.2.1 = x1.2.2.1))) = true then
    some ((), (false, ()))
   else
    if (!(decide (x0.2.2.2.1 = x1.2.2.2.1))) = true then
     some ((), (false, ()))
    else
     if (!(decide (x0.2.2.2.2.1 = x1.2.2.2.2.1))) = true then
      some ((), (false, ()))
     else
      if (!(decide (x0.2.2.2.2.2.1 = x1.2.2.2.2.2.1))) = true then
       some ((), (false, ()))
      else
       if (!(x0.2.2.2.2.2.2.1 == x1.2.2.2.2.2.2.1)) = true then
        some ((), (false, ()))
       else
        if (!(x0.2.2.2.2.2.2.2.1 == x1.2.2.2.2.2.2.2.1)) = true then
         some ((), (false, ()))
        else
         some ((), (true, ()))
theorem eq (x0 x1 : Cmd) (_ : wf x0 x1) : raw x0 x1 = some ((), (laws_eqCmd x0 x1, ())) := by
  unfold raw laws_eqCmd
  try simp only [letB]
  by_cases c0 : x0.1 = x1.1
  case neg => rw [if_pos (by simp [c0]), same_false.2 (fun h => c0 (congrArg (fun z : Cmd => z.1) h))]
  rw [if_neg (by simp [c0])]
  by_cases c1 : x0.2.1 = x1.2.1
  case neg => rw [if_pos (by simp [c1]), same_false.2 (fun h => c1 (congrArg (fun z : Cmd => z.2.1) h))]
  rw [if_neg (by simp [c1])]
  by_cases c2 : x0.2.2.1 = x1.2.2.1
  case neg => rw [if_pos (by simp [c2]), same_false.2 (fun h => c2 (congrArg (fun z : Cmd => z.2.2.1) h))]
  rw [if_neg (by simp [c2])]
  by_cases c3 : x0.2.2.2.1 = x1.2.2.2.1
  case neg => rw [if_pos (by simp [c3]), same_false.2 (fun h => c3 (congrArg (fun z : Cmd => z.2.2.2.1) h))]
  rw [if_neg (by simp [c3])]
  by_cases c4 : x0.2.2.2.2.1 = x1.2.2.2.2.1
  case neg => rw [if_pos (by simp [c4]), same_false.2 (fun h => c4 (congrArg (fun z : Cmd => z.2.2.2.2.1) h))]
  rw [if_neg (by simp [c4])]
  by_cases c5 : x0.2.2.2.2.2.1 = x1.2.2.2.2.2.1
  case neg => rw [if_pos (by simp [c5]), same_false.2 (fun h => c5 (congrArg (fun z : Cmd => z.2.2.2.2.2.1) h))]
  rw [if_neg (by simp [c5])]
  by_cases c6 : x0.2.2.2.2.2.2.1 = x1.2.2.2.2.2.2.1
  case neg => rw [if_pos (by simp [c6]), same_false.2 (fun h => c6 (congrArg (fun z : Cmd => z.2.2.2.2.2.2.1) h))]
  rw [if_neg (by simp [c6])]
  by_cases c7 : x0.2.2.2.2.2.2.2.1 = x1.2.2.2.2.2.2.2.1
  case neg => rw [if_pos (by simp [c7]), same_false.2 (fun h => c7 (congrArg (fun z : Cmd => z.2.2.2.2.2.2.2.1) h))]
  rw [if_neg (by simp [c7])]
  rw [same_true.2 (Prod.ext c0 (Prod.ext c1 (Prod.ext c2 (Prod.ext c3 (Prod.ext c4 (Prod.ext c5 (Prod.ext c6 (Prod.ext c7 rfl))))))))]
end laws_eqCmd
def laws_toCmd (x : Cmd) : Cmd := x
namespace laws_toCmd
abbrev wf (x0 : Cmd) : Prop := wfA [(.val (.pair (.int .i64) (.pair (.int .i64) (.pair (.int .i64) (.pair (.int .i64) (.pair (.int .i64) (.pair (.int .i64) (.pair .str (.pair .str .unit)))))))) .f)] (x0, ())
noncomputable def raw (x0 : Cmd) : Option (Unit × (Cmd × Unit)) :=
 some ((), (x0, ()))
theorem eq (x0 : Cmd) (_ : wf x0) : raw x0 = some ((), (laws_toCmd x0, ())) := rfl
end laws_toCmd
def laws_szCmd (x : Cmd) (l : Int) : Int := szN (w_Cmd x) l
namespace laws_szCmd
def pre (_ : Cmd) (l : Int) : Bool := decide (0 ≤ l) && decide (l ≤ maxLen)
abbrev wf (x0 : Cmd) (x1 : Int) : Prop := wfA [(.val (.pair (.int .i64) (.pair (.int .i64) (.pair (.int .i64) (.pair (.int .i64) (.pair (.int .i64) (.pair (.int .i64) (.pair .str (.pair .str .unit)))))))) .f), (.val (.int .i64) .f)] (x0, (x1, ()))
noncomputable def raw (x0 : Cmd) (x1 : Int) : Option (Unit × (Int × Unit)) :=
 if (decide ((IntKind.wrap .i64 (x1 - ((List.length x0.2.2.2.2.2.2.1 : Nat) : Int))) < (0 : Int))) = true then
  some ((), ((-1 : Int), ()))
 else
  if (decide ((IntKind.wrap .i64 ((IntKind.wrap .i64 (x1 - ((List.length x0.2.2.2.2.2.2.1 : Nat) : Int))) - ((List.length x0.2.2.2.2.2.2.2.1 : Nat) : Int))) < (0 : Int))) = true then
   some ((), ((-1 : Int), ()))
  else
   some ((), ((IntKind.wrap .i64 ((IntKind.wrap .i64 (x1 - ((List.length x0.2.2.2.2.2.2.1 : Nat) : Int))) - ((List.length x0.2.2.2.2.2.2.2.1 : Nat) : Int))), ()))
theorem eq (x0 : Cmd) (x1 : Int) (hw : wf x0 x1) (hp : pre x0 x1 = true) : raw x0 x1 = some ((), (laws_szCmd x0 x1, ())) := by
  simp only [pre, Bool.and_eq_true, decide_eq_true_eq] at hp
  have hM := maxLen_eq
  have t6 : x0.2.2.2.2.2.2.1.length ≤ maxLen := hw.1.2.2.2.2.2.2.1
  have t7 : x0.2.2.2.2.2.2.2.1.length ≤ maxLen := hw.1.2.2.2.2.2.2.2.1
  unfold raw
  try simp only [letB]
  rw [w64 (n := x1 - (x0.2.2.2.2.2.2.1.length : Int)) (by omega) (by omega)]
  by_cases c6 : x1 - (x0.2.2.2.2.2.2.1.length : Int) < 0
  · rw [if_pos (decide_eq_true c6), show laws_szCmd x0 x1 = -1 from szN_neg (by simp only [w_Cmd]; omega)]
  rw [if_neg (by rw [decide_eq_true_eq]; exact c6)]
  rw [w64 (n := x1 - (x0.2.2.2.2.2.2.1.length : Int) - (x0.2.2.2.2.2.2.2.1.length : Int)) (by omega) (by omega)]
  by_cases c7 : x1 - (x0.2.2.2.2.2.2.1.length : Int) - (x0.2.2.2.2.2.2.2.1.length : Int) < 0
  · rw [if_pos (decide_eq_true c7), show laws_szCmd x0 x1 = -1 from szN_neg (by simp only [w_Cmd]; omega)]
  rw [if_neg (by rw [decide_eq_true_eq]; exact c7)]
  rw [show laws_szCmd x0 x1 = x1 - (x0.2.2.2.2.2.2.1.length : Int) - (x0.2.2.2.2.2.2.2.1.length : Int) from by rw [laws_szCmd, szN_pos (by simp only [w_Cmd]; omega)]; simp only [w_Cmd]; omega]
end laws_szCmd
noncomputable def laws_eqCmdS (a b : List Cmd) : Bool := same a b
namespace laws_eqCmdS
def pre4 := eqPre (α := Cmd)
noncomputable def fn4 := eqFn (α := Cmd)
def mu4 := eqMu (α := Cmd)
noncomputable def raw4 (x1 : (List Cmd)) (x2 : (List Cmd)) (x3 : Int) : Option (((List Cmd) × ((List Cmd) × (Int × Unit))) ⊕ ((Bool × Unit) ⊕ Unit)) :=
 if (decide (x3 < ((List.length x1 : Nat) : Int))) = true then
  if (decide ((0 : Int) ≤ x3)) = true then
   if (decide (x3 < ((List.length x1 : Nat) : Int))) = true then
    if (decide ((0 : Int) ≤ x3)) = true then
     if (decide (x3 < ((List.length x2 : Nat) : Int))) = true then
      letB (laws_eqCmd (List.getD x1 (Int.toNat x3) ((0 : Int), ((0 : Int), ((0 : Int), ((0 : Int), ((0 : Int), ((0 : Int), (([] : List UInt8), (([] : List UInt8), ()))))))))) (List.getD x2 (Int.toNat x3) ((0 : Int), ((0 : Int), ((0 : Int), ((0 : Int), ((0 : Int), ((0 : Int), (([] : List UInt8), (([] : List UInt8), ())))))))))) fun v1 =>
      if (!v1) = true then
       some (.inr (.inl (false, ())))
      else
       some (.inl (x1, (x2, ((IntKind.wrap .i64 (x3 + (1 : Int))), ()))))
     else
      none
    else
     none
   else
    none
  else
   none
 else
  some (.inr (.inr ()))
abbrev wf (x0 : (List Cmd)) (x1 : (List Cmd)) : Prop := wfA [(.val (.sl 0 (.pair (.int .i64) (.pair (.int .i64) (.pair (.int .i64) (.pair (.int .i64) (.pair (.int .i64) (.pair (.int .i64) (.pair .str (.pair .str .unit))))))))) .f), (.val (.sl 0 (.pair (.int .i64) (.pair (.int .i64) (.pair (.int .i64) (.pair (.int .i64) (.pair (.int .i64) (.pair (.int .i64) (.pair .str (.pair .str .unit))))))))) .f)] (x0, (x1, ()))
noncomputable def raw (x0 : (List Cmd)) (x1 : (List Cmd)) : Option (Unit × (Bool × Unit)) :=
 if (!(decide (((List.length x0 : Nat) : Int) = ((List.length x1 : Nat) : Int)))) = true then
  some ((), (false, ()))
 else
  if (laws_eqCmdS.pre4 (x0, (x1, ((0 : Int), ())))) = true then
   letB (laws_eqCmdS.fn4 (x0, (x1, ((0 : Int), ())))) fun v1 =>
   match v1 with
   | .inl y =>
    some ((), y)
   | .inr y =>
    some ((), (true, ()))
  else
   none
theorem ok4 (x1 x2 : List Cmd) (x3 : Int) (hp : pre4 (x1, (x2, (x3, ()))) = true) : Rounds pre4 mu4 fn4 (x1, (x2, (x3, ()))) (raw4 x1 x2 x3) := by
  unfold raw4
  by_cases hlt : x3 < (x1.length : Int)
  · obtain ⟨h1, h2, h3, h4⟩ := eq_next hp hlt ((0 : Int), ((0 : Int), ((0 : Int), ((0 : Int), ((0 : Int), ((0 : Int), (([] : List UInt8), (([] : List UInt8), ()))))))))
    simp only [letB, hlt, h1, h2, decide_true, if_true]
    by_cases h : x1.getD x3.toNat ((0 : Int), ((0 : Int), ((0 : Int), ((0 : Int), ((0 : Int), ((0 : Int), (([] : List UInt8), (([] : List UInt8), ())))))))) = x2.getD x3.toNat ((0 : Int), ((0 : Int), ((0 : Int), ((0 : Int), ((0 : Int), ((0 : Int), (([] : List UInt8), (([] : List UInt8), ()))))))))
    · rw [if_neg (by rw [laws_eqCmd, same_true.2 h]; simp)]; exact h3 h
    · rw [if_pos (by rw [laws_eqCmd, same_false.2 h]; rfl)]; exact h4 h
  · simp only [hlt, decide_false, Bool.false_eq_true, if_false]
    exact eq_end hp hlt
theorem eq (x0 x1 : List Cmd) (hw : wf x0 x1) : raw x0 x1 = some ((), (laws_eqCmdS x0 x1, ())) := by
  have h1 : x0.length ≤ maxLen := hw.1.1
  unfold raw laws_eqCmdS
  by_cases hl : (x0.length : Int) = (x1.length : Int)
  · rw [if_neg (by simp [hl]), if_pos (show pre4 _ = true from eq_start h1 hl)]
    unfold fn4
    by_cases he : x0 = x1
    · rw [eqFn_eq he, same_true.2 he]; rfl
    · rw [eqFn_ne he, same_false.2 he]; rfl
  · have : ¬ x0 = x1 := fun h => hl (by rw [h])
    rw [if_pos (by simp [hl]), same_false.2 this]
end laws_eqCmdS
def laws_toCmdS (xs : List Cmd) : List Cmd := xs
namespace laws_toCmdS
def pre (xs : List Cmd) : Bool := small xs && xs.all (fun _ => true)
noncomputable def pre3 := tcPreB (α := Cmd) (fun _ => true)
def fn3 := toFn (α := Cmd)
def mu3 := toMu (α := Cmd)
noncomputable def raw3 (x1 : (List Cmd)) (x2 : Int) (x3 : (List Cmd)) : Option (((List Cmd) × (Int × ((List Cmd) × Unit))) ⊕ ((List Cmd) × Unit)) :=
 if (decide (x2 < ((List.length x1 : Nat) : Int))) = true then
  if (decide ((0 : Int) ≤ x2)) = true then
   if (decide (x2 < ((List.length x1 : Nat) : Int))) = true then
    if (decide ((0 : Int) ≤ x2)) = true then
     if (decide (x2 < ((List.length x3 : Nat) : Int))) = true then
      some (.inl (x1, ((IntKind.wrap .i64 (x2 + (1 : Int))), ((List.modify x3 (Int.toNat x2) (fun z => (laws_toCmd (List.getD x1 (Int.toNat x2) ((0 : Int), ((0 : Int), ((0 : Int), ((0 : Int), ((0 : Int), ((0 : Int), (([] : List UInt8), (([] : List UInt8), ())))))))))))), ()))))
     else
      none
    else
     none
   else
    none
  else
   none
 else
  some (.inr (x3, ()))
abbrev wf (x0 : (List Cmd)) : Prop := wfA [(.val (.sl 0 (.pair (.int .i64) (.pair (.int .i64) (.pair (.int .i64) (.pair (.int .i64) (.pair (.int .i64) (.pair (.int .i64) (.pair .str (.pair .str .unit))))))))) .f)] (x0, ())
noncomputable def raw (x0 : (List Cmd)) : Option (Unit × ((List Cmd) × Unit)) :=
 if (decide ((0 : Int) ≤ ((List.length x0 : Nat) : Int))) = true then
  if (decide (((List.length x0 : Nat) : Int) ≤ ((List.length x0 : Nat) : Int))) = true then
   if (decide (((List.length x0 : Nat) : Int) ≤ (4294967296 : Int))) = true then
    if (laws_toCmdS.pre3 (x0, ((0 : Int), ((List.replicate (Int.toNat ((List.length x0 : Nat) : Int)) ((0 : Int), ((0 : Int), ((0 : Int), ((0 : Int), ((0 : Int), ((0 : Int), (([] : List UInt8), (([] : List UInt8), ()))))))))), ())))) = true then
     letB (laws_toCmdS.fn3 (x0, ((0 : Int), ((List.replicate (Int.toNat ((List.length x0 : Nat) : Int)) ((0 : Int), ((0 : Int), ((0 : Int), ((0 : Int), ((0 : Int), ((0 : Int), (([] : List UInt8), (([] : List UInt8), ()))))))))), ())))) fun v1 =>
     some ((), v1)
    else
     none
   else
    none
  else
   none
 else
  none
theorem ok3 (x1 : List Cmd) (x2 : Int) (x3 : List Cmd) (hp : pre3 (x1, (x2, (x3, ()))) = true) : Rounds pre3 mu3 fn3 (x1, (x2, (x3, ()))) (raw3 x1 x2 x3) := by
  unfold raw3
  by_cases hlt : x2 < (x1.length : Int)
  · obtain ⟨h1, h2, h3⟩ := tc_facts hp hlt ((0 : Int), ((0 : Int), ((0 : Int), ((0 : Int), ((0 : Int), ((0 : Int), (([] : List UInt8), (([] : List UInt8), ()))))))))
    simp only [letB, hlt, h1, h2, h3, decide_true, if_true]
    exact tc_step hp hlt ((0 : Int), ((0 : Int), ((0 : Int), ((0 : Int), ((0 : Int), ((0 : Int), (([] : List UInt8), (([] : List UInt8), ())))))))) rfl
  · rw [if_neg (by simp [hlt])]; exact tc_end hp hlt
theorem eq (x0 : List Cmd) (hw : wf x0) (hp : pre x0 = true) : raw x0 = some ((), (laws_toCmdS x0, ())) := by
  have h1 : x0.length ≤ maxLen := hw.1.1
  simp only [pre, Bool.and_eq_true, small_iff] at hp
  unfold raw
  rw [if_pos (by simp), if_pos (by simp), if_pos (by simp; omega), if_pos (show pre3 _ = true from tc_start h1 hp.2 _)]
  rfl
end laws_toCmdS
theorem toCmdS_pre {xs : List Cmd} (h : wL w_Cmd xs ≤ 16777216) : laws_toCmdS.pre xs = true := by
  have hl := wL_nn w_Cmd_nn xs
  simp only [laws_toCmdS.pre, Bool.and_eq_true, small_iff]
  exact ⟨by omega, by simp⟩
def laws_szCmdS (xs : List Cmd) (l : Int) : Int := szN (wL w_Cmd xs) l
namespace laws_szCmdS
def pre (_ : List Cmd) (l : Int) : Bool := decide (0 ≤ l) && decide (l ≤ maxLen)
def pre5 := swPre (α := Cmd)
def fn5 := swFn w_Cmd
def mu5 := szMu (α := Cmd)
noncomputable def raw5 (x1 : (List Cmd)) (x2 : Int) (x3 : Int) : Option (((List Cmd) × Mark) ⊕ ((Int × Unit) ⊕ (Int × Unit))) :=
 if (decide (x3 < ((List.length x1 : Nat) : Int))) = true then
  if (decide ((0 : Int) ≤ x3)) = true then
   if (decide (x3 < ((List.length x1 : Nat) : Int))) = true then
    if (laws_szCmd.pre (List.getD x1 (Int.toNat x3) ((0 : Int), ((0 : Int), ((0 : Int), ((0 : Int), ((0 : Int), ((0 : Int), (([] : List UInt8), (([] : List UInt8), ()))))))))) x2) = true then
     letB (laws_szCmd (List.getD x1 (Int.toNat x3) ((0 : Int), ((0 : Int), ((0 : Int), ((0 : Int), ((0 : Int), ((0 : Int), (([] : List UInt8), (([] : List UInt8), ()))))))))) x2) fun v1 =>
     if (decide (v1 < (0 : Int))) = true then
      some (.inr (.inl ((-1 : Int), ())))
     else
      some (.inl (x1, (v1, ((IntKind.wrap .i64 (x3 + (1 : Int))), ()))))
    else
     none
   else
    none
  else
   none
 else
  some (.inr (.inr (x2, ())))
abbrev wf (x0 : (List Cmd)) (x1 : Int) : Prop := wfA [(.val (.sl 0 (.pair (.int .i64) (.pair (.int .i64) (.pair (.int .i64) (.pair (.int .i64) (.pair (.int .i64) (.pair (.int .i64) (.pair .str (.pair .str .unit))))))))) .f), (.val (.int .i64) .f)] (x0, (x1, ()))
noncomputable def raw (x0 : (List Cmd)) (x1 : Int) : Option (Unit × (Int × Unit)) :=
 if (decide ((IntKind.wrap .i64 (x1 - ((List.length x0 : Nat) : Int))) < (0 : Int))) = true then
  some ((), ((-1 : Int), ()))
 else
  if (laws_szCmdS.pre5 (x0, ((IntKind.wrap .i64 (x1 - ((List.length x0 : Nat) : Int))), ((0 : Int), ())))) = true then
   letB (laws_szCmdS.fn5 (x0, ((IntKind.wrap .i64 (x1 - ((List.length x0 : Nat) : Int))), ((0 : Int), ())))) fun v1 =>
   match v1 with
   | .inl y =>
    some ((), y)
   | .inr y =>
    some ((), y)
  else
   none
theorem ok5 (x1 : List Cmd) (x2 x3 : Int) (hp : pre5 (x1, (x2, (x3, ()))) = true) : Rounds pre5 mu5 fn5 (x1, (x2, (x3, ()))) (raw5 x1 x2 x3) := by
  unfold raw5
  by_cases hlt : x3 < (x1.length : Int)
  · obtain ⟨h0, h1, h2⟩ := sw_facts hp
    have q : laws_szCmd.pre (x1.getD x3.toNat ((0 : Int), ((0 : Int), ((0 : Int), ((0 : Int), ((0 : Int), ((0 : Int), (([] : List UInt8), (([] : List UInt8), ()))))))))) x2 = true := by simp only [laws_szCmd.pre, Bool.and_eq_true, decide_eq_true_eq]; exact ⟨h1, h2⟩
    simp only [letB, hlt, h0, q, decide_true, if_true]
    by_cases c : x2 - w_Cmd (x1.getD x3.toNat ((0 : Int), ((0 : Int), ((0 : Int), ((0 : Int), ((0 : Int), ((0 : Int), (([] : List UInt8), (([] : List UInt8), ()))))))))) < 0
    · rw [show laws_szCmd (x1.getD x3.toNat ((0 : Int), ((0 : Int), ((0 : Int), ((0 : Int), ((0 : Int), ((0 : Int), (([] : List UInt8), (([] : List UInt8), ()))))))))) x2 = -1 from szN_neg c, if_pos (by decide)]; exact sw_bad w_Cmd_nn hp hlt ((0 : Int), ((0 : Int), ((0 : Int), ((0 : Int), ((0 : Int), ((0 : Int), (([] : List UInt8), (([] : List UInt8), ())))))))) c
    · rw [show laws_szCmd (x1.getD x3.toNat ((0 : Int), ((0 : Int), ((0 : Int), ((0 : Int), ((0 : Int), ((0 : Int), (([] : List UInt8), (([] : List UInt8), ()))))))))) x2 = x2 - w_Cmd (x1.getD x3.toNat ((0 : Int), ((0 : Int), ((0 : Int), ((0 : Int), ((0 : Int), ((0 : Int), (([] : List UInt8), (([] : List UInt8), ()))))))))) from szN_pos c, if_neg (by rw [decide_eq_true_eq]; exact c)]; exact sw_good w_Cmd_nn hp hlt ((0 : Int), ((0 : Int), ((0 : Int), ((0 : Int), ((0 : Int), ((0 : Int), (([] : List UInt8), (([] : List UInt8), ())))))))) c
  · rw [if_neg (by simp [hlt])]; exact sw_end hp hlt
theorem eq (x0 : List Cmd) (x1 : Int) (hw : wf x0 x1) (hp : pre x0 x1 = true) : raw x0 x1 = some ((), (laws_szCmdS x0 x1, ())) := by
  have h1 : x0.length ≤ maxLen := hw.1.1
  simp only [pre, Bool.and_eq_true, decide_eq_true_eq] at hp
  have hM := maxLen_eq
  have hnn := sumW_nn w_Cmd_nn x0
  unfold raw
  rw [w64 (n := x1 - (x0.length : Int)) (by omega) (by omega)]
  by_cases c : x1 - (x0.length : Int) < 0
  · rw [if_pos (decide_eq_true c), show laws_szCmdS x0 x1 = -1 from szN_neg (by simp only [wL]; omega)]
  · rw [if_neg (by rw [decide_eq_true_eq]; exact c), if_pos (show pre5 _ = true from sw_start h1 (by omega) (by omega))]
    exact swFn_start x0 x1
end laws_szCmdS
def w_Entry (x : Entry) : Int := w_Cmd x.2.1
theorem w_Entry_nn (x : Entry) : 0 ≤ w_Entry x := by
  have n1 := w_Cmd_nn x.2.1
  simp only [w_Entry]; omega
noncomputable def laws_eqEntry (a b : Entry) : Bool := same a b
namespace laws_eqEntry
abbrev wf (x0 : Entry) (x1 : Entry) : Prop := wfA [(.val (.pair (.int .i64) (.pair (.pair (.int .i64) (.pair (.int .i64) (.pair (.int .i64) (.pair (.int .i64) (.pair (.int .i64) (.pair (.int .i64) (.pair .str (.pair .str .unit)))))))) .unit)) .f), (.val (.pair (.int .i64) (.pair (.pair (.int .i64) (.pair (.int .i64) (.pair (.int .i64) (.pair (.int .i64) (.pair (.int .i64) (.pair (.int .i64) (.pair .str (.pair .str .unit)))))))) .unit)) .f)] (x0, (x1, ()))
noncomputable def raw (x0 : Entry) (x1 : Entry) : Option (Unit × (Bool × Unit)) :=
 if (!(decide (x0.1 = x1.1))) = true then
  some ((), (false, ()))
 else
  letB (laws_eqCmd x0.2.1 x1.2.1) fun v1 =>
  if (!v1) = true then
   some ((), (false, ()))
  else
   some ((), (true, ()))
theorem eq (x0 x1 : Entry) (_ : wf x0 x1) : raw x0 x1 = some ((), (laws_eqEntry x0 x1, ())) := by
  unfold raw laws_eqEntry
  try simp only [letB]
  by_cases c0 : x0.1 = x1.1
  case neg => rw [if_pos (by simp [c0]), same_false.2 (fun h => c0 (congrArg (fun z : Entry => z.1) h))]
  rw [if_neg (by simp [c0])]
  by_cases c1 : x0.2.1 = x1.2.1
  case neg => rw [if_pos (by rw [laws_eqCmd, same_false.2 c1]; rfl), same_false.2 (fun h => c1 (congrArg (fun z : Entry => z.2.1) h))]
  rw [if_neg (by rw [laws_eqCmd, same_true.2 c1]; simp)]
  rw [same_true.2 (Prod.ext c0 (Prod.ext c1 rfl))]
end laws_eqEntry
def laws_toEntry (x : Entry) : Entry := x
namespace laws_toEntry
abbrev wf (x0 : Entry) : Prop := wfA [(.val (.pair (.int .i64) (.pair (.pair (.int .i64) (.pair (.int .i64) (.pair (.int .i64) (.pair (.int .i64) (.pair (.int .i64) (.pair (.int .i64) (.pair .str (.pair .str .unit)))))))) .unit)) .f)] (x0, ())
noncomputable def raw (x0 : Entry) : Option (Unit × (Entry × Unit)) :=
 letB (laws_toCmd x0.2.1) fun v1 =>
 some ((), ((x0.1, (v1, ())), ()))
theorem eq (x0 : Entry) (_ : wf x0) : raw x0 = some ((), (laws_toEntry x0, ())) := rfl
end laws_toEntry
def laws_szEntry (x : Entry) (l : Int) : Int := szN (w_Entry x) l
namespace laws_szEntry
def pre (_ : Entry) (l : Int) : Bool := decide (0 ≤ l) && decide (l ≤ maxLen)
abbrev wf (x0 : Entry) (x1 : Int) : Prop := wfA [(.val (.pair (.int .i64) (.pair (.pair (.int .i64) (.pair (.int .i64) (.pair (.int .i64) (.pair (.int .i64) (.pair (.int .i64) (.pair (.int .i64) (.pair .str (.pair .str .unit)))))))) .unit)) .f), (.val (.int .i64) .f)] (x0, (x1, ()))
noncomputable def raw (x0 : Entry) (x1 : Int) : Option (Unit × (Int × Unit)) :=
 if (laws_szCmd.pre x0.2.1 x1) = true then
  letB (laws_szCmd x0.2.1 x1) fun v1 =>
  if (decide (v1 < (0 : Int))) = true then
   some ((), ((-1 : Int), ()))
  else
   some ((), (v1, ()))
 else
  none
theorem eq (x0 : Entry) (x1 : Int) (hw : wf x0 x1) (hp : pre x0 x1 = true) : raw x0 x1 = some ((), (laws_szEntry x0 x1, ())) := by
  simp only [pre, Bool.and_eq_true, decide_eq_true_eq] at hp
  have hM := maxLen_eq
  have t1 := w_Cmd_nn x0.2.1
  unfold raw
  try simp only [letB]
  rw [if_pos (show laws_szCmd.pre _ _ = true by simp only [laws_szCmd.pre, Bool.and_eq_true, decide_eq_true_eq]; omega)]
  by_cases c1 : x1 - w_Cmd x0.2.1 < 0
  · rw [show laws_szCmd x0.2.1 (x1) = -1 from szN_neg c1, if_pos (by decide), show laws_szEntry x0 x1 = -1 from szN_neg (by simp only [w_Entry]; omega)]
  rw [show laws_szCmd x0.2.1 (x1) = x1 - w_Cmd x0.2.1 from szN_pos c1, if_neg (by rw [decide_eq_true_eq]; exact c1)]
  rw [show laws_szEntry x0 x1 = x1 - w_Cmd x0.2.1 from by rw [laws_szEntry, szN_pos (by simp only [w_Entry]; omega)]; simp only [w_Entry]]
end laws_szEntry
noncomputable def laws_eqEntryS (a b : List Entry) : Bool := same a b
namespace laws_eqEntryS
def pre4 := eqPre (α := Entry)
noncomputable def fn4 := eqFn (α := Entry)
def mu4 := eqMu (α := Entry)
noncomputable def raw4 (x1 : (List Entry)) (x2 : (List Entry)) (x3 : Int) : Option (((List Entry) × ((List Entry) × (Int × Unit))) ⊕ ((Bool × Unit) ⊕ Unit)) :=
 if (decide (x3 < ((List.length x1 : Nat) : Int))) = true then
  if (decide ((0 : Int) ≤ x3)) = true then
   if (decide (x3 < ((List.length x1 : Nat) : Int))) = true then
    if (decide ((0 : Int) ≤ x3)) = true then
     if (decide (x3 < ((List.length x2 : Nat) : Int))) = true then
      letB (laws_eqEntry (List.getD x1 (Int.toNat x3) ((0 : Int), (((0 : Int), ((0 : Int), ((0 : Int), ((0 : Int), ((0 : Int), ((0 : Int), (([] : List UInt8), (([] : List UInt8), ())))))))), ()))) (List.getD x2 (Int.toNat x3) ((0 : Int), (((0 : Int), ((0 : Int), ((0 : Int), ((0 : Int), ((0 : Int), ((0 : Int), (([] : List UInt8), (([] : List UInt8), ())))))))), ())))) fun v1 =>
      if (!v1) = true then
       some (.inr (.inl (false, ())))
      else
       some (.inl (x1, (x2, ((IntKind.wrap .i64 (x3 + (1 : Int))), ()))))
     else
      none
    else
     none
   else
    none
  else
   none
 else
  some (.inr (.inr ()))
abbrev wf (x0 : (List Entry)) (x1 : (List Entry)) : Prop := wfA [(.val (.sl 0 (.pair (.int .i64) (.pair (.pair (.int .i64) (.pair (.int .i64) (.pair (.int .i64) (.pair (.int .i64) (.pair (.int .i64) (.pair (.int .i64) (.pair .str (.pair .str .unit)))))))) .unit))) .f), (.val (.sl 0 (.pair (.int .i64) (.pair (.pair (.int .i64) (.pair (.int .i64) (.pair (.int .i64) (.pair (.int .i64) (.pair (.int .i64) (.pair (.int .i64) (.pair .str (.pair .str .unit)))))))) .unit))) .f)] (x0, (x1, ()))
noncomputable def raw (x0 : (List Entry)) (x1 : (List Entry)) : Option (Unit × (Bool × Unit)) :=
 if (!(decide (((List.length x0 : Nat) : Int) = ((List.length x1 : Nat) : Int)))) = true then
  some ((), (false, ()))
 else
  if (laws_eqEntryS.pre4 (x0, (x1, ((0 : Int), ())))) = true then
   letB (laws_eqEntryS.fn4 (x0, (x1, ((0 : Int), ())))) fun v1 =>
   match v1 with
   | .inl y =>
    some ((), y)
   | .inr y =>
    some ((), (true, ()))
  else
   none
theorem ok4 (x1 x2 : List Entry) (x3 : Int) (hp : pre4 (x1, (x2, (x3, ()))) = true) : Rounds pre4 mu4 fn4 (x1, (x2, (x3, ()))) (raw4 x1 x2 x3) := by
  unfold raw4
  by_cases hlt : x3 < (x1.length : Int)
  · obtain ⟨h1, h2, h3, h4⟩ := eq_next hp hlt ((0 : Int), (((0 : Int), ((0 : Int), ((0 : Int), ((0 : Int), ((0 : Int), ((0 : Int), (([] : List UInt8), (([] : List UInt8), ())))))))), ()))
    simp only [letB, hlt, h1, h2, decide_true, if_true]
    by_cases h : x1.getD x3.toNat ((0 : Int), (((0 : Int), ((0 : Int), ((0 : Int), ((0 : Int), ((0 : Int), ((0 : Int), (([] : List UInt8), (([] : List UInt8), ())))))))), ())) = x2.getD x3.toNat ((0 : Int), (((0 : Int), ((0 : Int), ((0 : Int), ((0 : Int), ((0 : Int), ((0 : Int), (([] : List UInt8), (([] : List UInt8), ())))))))), ()))
    · rw [if_neg (by rw [laws_eqEntry, same_true.2 h]; simp)]; exact h3 h
    · rw [if_pos (by rw [laws_eqEntry, same_false.2 h]; rfl)]; exact h4 h
  · simp only [hlt, decide_false, Bool.false_eq_true, if_false]
    exact eq_end hp hlt
theorem eq (x0 x1 : List Entry) (hw : wf x0 x1) : raw x0 x1 = some ((), (laws_eqEntryS x0 x1, ())) := by
  have h1 : x0.length ≤ maxLen := hw.1.1
  unfold raw laws_eqEntryS
  by_cases hl : (x0.length : Int) = (x1.length : Int)
  · rw [if_neg (by simp [hl]), if_pos (show pre4 _ = true from eq_start h1 hl)]
    unfold fn4
    by_cases he : x0 = x1
    · rw [eqFn_eq he, same_true.2 he]; rfl
    · rw [eqFn_ne he, same_false.2 he]; rfl
  · have : ¬ x0 = x1 := fun h => hl (by rw [h])
    rw [if_pos (by simp [hl]), same_false.2 this]
end laws_eqEntryS
def laws_toEntryS (xs : List Entry) : List Entry := xs
namespace laws_toEntryS
def pre (xs : List Entry) : Bool := small xs && xs.all (fun _ => true)
noncomputable def pre3 := tcPreB (α := Entry) (fun _ => true)
def fn3 := toFn (α := Entry)
def mu3 := toMu (α := Entry)
noncomputable def raw3 (x1 : (List Entry)) (x2 : Int) (x3 : (List Entry)) : Option (((List Entry) × (Int × ((List Entry) × Unit))) ⊕ ((List Entry) × Unit)) :=
 if (decide (x2 < ((List.length x1 : Nat) : Int))) = true then
  if (decide ((0 : Int) ≤ x2)) = true then
   if (decide (x2 < ((List.length x1 : Nat) : Int))) = true then
    if (decide ((0 : Int) ≤ x2)) = true then
     if (decide (x2 < ((List.length x3 : Nat) : Int))) = true then
      some (.inl (x1, ((IntKind.wrap .i64 (x2 + (1 : Int))), ((List.modify x3 (Int.toNat x2) (fun z => (laws_toEntry (List.getD x1 (Int.toNat x2) ((0 : Int), (((0 : Int), ((0 : Int), ((0 : Int), ((0 : Int), ((0 : Int), ((0 : Int), (([] : List UInt8), (([] : List UInt8), ())))))))), ())))))), ()))))
     else
      none
    else
     none
   else
    none
  else
   none
 else
  some (.inr (x3, ()))
abbrev wf (x0 : (List Entry)) : Prop := wfA [(.val (.sl 0 (.pair (.int .i64) (.pair (.pair (.int .i64) (.pair (.int .i64) (.pair (.int .i64) (.pair (.int .i64) (.pair (.int .i64) (.pair (.int .i64) (.pair .str (.pair .str .unit)))))))) .unit))) .f)] (x0, ())
noncomputable def raw (x0 : (List Entry)) : Option (Unit × ((List Entry) × Unit)) :=
 if (decide ((0 : Int) ≤ ((List.length x0 : Nat) : Int))) = true then
  if (decide (((List.length x0 : Nat) : Int) ≤ ((List.length x0 : Nat) : Int))) = true then
   if (decide (((List.length x0 : Nat) : Int) ≤ (4294967296 : Int))) = true then
    if (laws_toEntryS.pre3 (x0, ((0 : Int), ((List.replicate (Int.toNat ((List.length x0 : Nat) : Int)) ((0 : Int), (((0 : Int), ((0 : Int), ((0 : Int), ((0 : Int), ((0 : Int), ((0 : Int), (([] : List UInt8), (([] : List UInt8), ())))))))), ()))), ())))) = true then
     letB (laws_toEntryS.fn3 (x0, ((0 : Int), ((List.replicate (Int.toNat ((List.length x0 : Nat) : Int)) ((0 : Int), (((0 : Int), ((0 : Int), ((0 : Int), ((0 : Int), ((0 : Int), ((0 : Int), (([] : List UInt8), (([] : List UInt8), ())))))))), ()))), ())))) fun v1 =>
     some ((), v1)
    else
     none
   else
    none
  else
   none
 else
  none
theorem ok3 (x1 : List Entry) (x2 : Int) (x3 : List Entry) (hp : pre3 (x1, (x2, (x3, ()))) = true) : Rounds pre3 mu3 fn3 (x1, (x2, (x3, ()))) (raw3 x1 x2 x3) := by
  unfold raw3
  by_cases hlt : x2 < (x1.length : Int)
  · obtain ⟨h1, h2, h3⟩ := tc_facts hp hlt ((0 : Int), (((0 : Int), ((0 : Int), ((0 : Int), ((0 : Int), ((0 : Int), ((0 : Int), (([] : List UInt8), (([] : List UInt8), ())))))))), ()))
    simp only [letB, hlt, h1, h2, h3, decide_true, if_true]
    exact tc_step hp hlt ((0 : Int), (((0 : Int), ((0 : Int), ((0 : Int), ((0 : Int), ((0 : Int), ((0 : Int), (([] : List UInt8), (([] : List UInt8), ())))))))), ())) rfl
  · rw [if_neg (by simp [hlt])]; exact tc_end hp hlt
theorem eq (x0 : List Entry) (hw : wf x0) (hp : pre x0 = true) : raw x0 = some ((), (laws_toEntryS x0, ())) := by
  have h1 : x0.length ≤ maxLen := hw.1.1
  simp only [pre, Bool.and_eq_true, small_iff] at hp
  unfold raw
  rw [if_pos (by simp), if_pos (by simp), if_pos (by simp; omega), if_pos (show pre3 _ = true from tc_start h1 hp.2 _)]
  rfl
end laws_toEntryS
theorem toEntryS_pre {xs : List Entry} (h : wL w_Entry xs ≤ 16777216) : laws_toEntryS.pre xs = true := by
  have hl := wL_nn w_Entry_nn xs
  simp only [laws_toEntryS.pre, Bool.and_eq_true, small_iff]
  exact ⟨by omega, by simp⟩
def laws_szEntryS (xs : List Entry) (l : Int) : Int := szN (wL w_Entry xs) l
namespace laws_szEntryS
def pre (_ : List Entry) (l : Int) : Bool := decide (0 ≤ l) && decide (l ≤ maxLen)
def pre5 := swPre (α := Entry)
def fn5 := swFn w_Entry
def mu5 := szMu (α := Entry)
noncomputable def raw5 (x1 : (List Entry)) (x2 : Int) (x3 : Int) : Option (((List Entry) × Mark) ⊕ ((Int × Unit) ⊕ (Int × Unit))) :=
 if (decide (x3 < ((List.length x1 : Nat) : Int))) = true then
  if (decide ((0 : Int) ≤ x3)) = true then
   if (decide (x3 < ((List.length x1 : Nat) : Int))) = true then
    if (laws_szEntry.pre (List.getD x1 (Int.toNat x3) ((0 : Int), (((0 : Int), ((0 : Int), ((0 : Int), ((0 : Int), ((0 : Int), ((0 : Int), (([] : List UInt8), (([] : List UInt8), ())))))))), ()))) x2) = true then
     letB (laws_szEntry (List.getD x1 (Int.toNat x3) ((0 : Int), (((0 : Int), ((0 : Int), ((0 : Int), ((0 : Int), ((0 : Int), ((0 : Int), (([] : List UInt8), (([] : List UInt8), ())))))))), ()))) x2) fun v1 =>
     if (decide (v1 < (0 : Int))) = true then
      some (.inr (.inl ((-1 : Int), ())))
     else
      some (.inl (x1, (v1, ((IntKind.wrap .i64 (x3 + (1 : Int))), ()))))
    else
     none
   else
    none
  else
   none
 else
  some (.inr (.inr (x2, ())))
abbrev wf (x0 : (List Entry)) (x1 : Int) : Prop := wfA [(.val (.sl 0 (.pair (.int .i64) (.pair (.pair (.int .i64) (.pair (.int .i64) (.pair (.int .i64) (.pair (.int .i64) (.pair (.int .i64) (.pair (.int .i64) (.pair .str (.pair .str .unit)))))))) .unit))) .f), (.val (.int .i64) .f)] (x0, (x1, ()))
noncomputable def raw (x0 : (List Entry)) (x1 : Int) : Option (Unit × (Int × Unit)) :=
 if (decide ((IntKind.wrap .i64 (x1 - ((List.length x0 : Nat) : Int))) < (0 : Int))) = true then
  some ((), ((-1 : Int), ()))
 else
  if (laws_szEntryS.pre5 (x0, ((IntKind.wrap .i64 (x1 - ((List.length x0 : Nat) : Int))), ((0 : Int), ())))) = true then
   letB (laws_szEntryS.fn5 (x0, ((IntKind.wrap .i64 (x1 - ((List.length x0 : Nat) : Int))), ((0 : Int), ())))) fun v1 =>
   match v1 with
   | .inl y =>
    some ((), y)
   | .inr y =>
    some ((), y)
  else
   none
theorem ok5 (x1 : List Entry) (x2 x3 : Int) (hp : pre5 (x1, (x2, (x3, ()))) = true) : Rounds pre5 mu5 fn5 (x1, (x2, (x3, ()))) (raw5 x1 x2 x3) := by
  unfold raw5
  by_cases hlt : x3 < (x1.length : Int)
  · obtain ⟨h0, h1, h2⟩ := sw_facts hp
    have q : laws_szEntry.pre (x1.getD x3.toNat ((0 : Int), (((0 : Int), ((0 : Int), ((0 : Int), ((0 : Int), ((0 : Int), ((0 : Int), (([] : List UInt8), (([] : List UInt8), ())))))))), ()))) x2 = true := by simp only [laws_szEntry.pre, Bool.and_eq_true, decide_eq_true_eq]; exact ⟨h1, h2⟩
    simp only [letB, hlt, h0, q, decide_true, if_true]
    by_cases c : x2 - w_Entry (x1.getD x3.toNat ((0 : Int), (((0 : Int), ((0 : Int), ((0 : Int), ((0 : Int), ((0 : Int), ((0 : Int), (([] : List UInt8), (([] : List UInt8), ())))))))), ()))) < 0
    · rw [show laws_szEntry (x1.getD x3.toNat ((0 : Int), (((0 : Int), ((0 : Int), ((0 : Int), ((0 : Int), ((0 : Int), ((0 : Int), (([] : List UInt8), (([] : List UInt8), ())))))))), ()))) x2 = -1 from szN_neg c, if_pos (by decide)]; exact sw_bad w_Entry_nn hp hlt ((0 : Int), (((0 : Int), ((0 : Int), ((0 : Int), ((0 : Int), ((0 : Int), ((0 : Int), (([] : List UInt8), (([] : List UInt8), ())))))))), ())) c
    · rw [show laws_szEntry (x1.getD x3.toNat ((0 : Int), (((0 : Int), ((0 : Int), ((0 : Int), ((0 : Int), ((0 : Int), ((0 : Int), (([] : List UInt8), (([] : List UInt8), ())))))))), ()))) x2 = x2 - w_Entry (x1.getD x3.toNat ((0 : Int), (((0 : Int), ((0 : Int), ((0 : Int), ((0 : Int), ((0 : Int), ((0 : Int), (([] : List UInt8), (([] : List UInt8), ())))))))), ()))) from szN_pos c, if_neg (by rw [decide_eq_true_eq]; exact c)]; exact sw_good w_Entry_nn hp hlt ((0 : Int), (((0 : Int), ((0 : Int), ((0 : Int), ((0 : Int), ((0 : Int), ((0 : Int), (([] : List UInt8), (([] : List UInt8), ())))))))), ())) c
  · rw [if_neg (by simp [hlt])]; exact sw_end hp hlt
theorem eq (x0 : List Entry) (x1 : Int) (hw : wf x0 x1) (hp : pre x0 x1 = true) : raw x0 x1 = some ((), (laws_szEntryS x0 x1, ())) := by
  have h1 : x0.length ≤ maxLen := hw.1.1
  simp only [pre, Bool.and_eq_true, decide_eq_true_eq] at hp
  have hM := maxLen_eq
  have hnn := sumW_nn w_Entry_nn x0
  unfold raw
  rw [w64 (n := x1 - (x0.length : Int)) (by omega) (by omega)]
  by_cases c : x1 - (x0.length : Int) < 0
  · rw [if_pos (decide_eq_true c), show laws_szEntryS x0 x1 = -1 from szN_neg (by simp only [wL]; omega)]
  · rw [if_neg (by rw [decide_eq_true_eq]; exact c), if_pos (show pre5 _ = true from sw_start h1 (by omega) (by omega))]
    exact swFn_start x0 x1
end laws_szEntryS
def w_Log (x : Log) : Int := wL w_Entry x.2.2.1
theorem w_Log_nn (x : Log) : 0 ≤ w_Log x := by
  have n2 := wL_nn w_Entry_nn x.2.2.1
  simp only [w_Log]; omega
noncomputable def laws_eqLog (a b : Log) : Bool := same a b
namespace laws_eqLog
abbrev wf (x0 : Log) (x1 : Log) : Prop := wfA [(.val (.pair (.int .i64) (.pair (.int .i64) (.pair (.sl 0 (.pair (.int .i64) (.pair (.pair (.int .i64) (.pair (.int .i64) (.pair (.int .i64) (.pair (.int .i64) (.pair (.int .i64) (.pair (.int .i64) (.pair .str (.pair .str .unit)))))))) .unit))) .unit))) .f), (.val (.pair (.int .i64) (.pair (.int .i64) (.pair (.sl 0 (.pair (.int .i64) (.pair (.pair (.int .i64) (.pair (.int .i64) (.pair (.int .i64) (.pair (.int .i64) (.pair (.int .i64) (.pair (.int .i64) (.pair .str (.pair .str .unit)))))))) .unit))) .unit))) .f)] (x0, (x1, ()))
noncomputable def raw (x0 : Log) (x1 : Log) : Option (Unit × (Bool × Unit)) :=
 if (!(decide (x0.1 = x1.1))) = true then
  some ((), (false, ()))
 else
  if (!(decide (x0.2.1 = x1.2.1))) = true then
   some ((), (false, ()))
  else
   letB (laws_eqEntryS x0.2.2.1 x1.2.2.1) fun v1 =>
   if (!v1) = true then
    some ((), (false, ()))
   else
    some ((), (true, ()))
theorem eq (x0 x1 : Log) (_ : wf x0 x1) : raw x0 x1 = some ((), (laws_eqLog x0 x1, ())) := by
  unfold raw laws_eqLog
  try simp only [letB]
  by_cases c0 : x0.1 = x1.1
  case neg => rw [if_pos (by simp [c0]), same_false.2 (fun h => c0 (congrArg (fun z : Log => z.1) h))]
  rw [if_neg (by simp [c0])]
  by_cases c1 : x0.2.1 = x1.2.1
  case neg => rw [if_pos (by simp [c1]), same_false.2 (fun h => c1 (congrArg (fun z : Log => z.2.1) h))]
  rw [if_neg (by simp [c1])]
  by_cases c2 : x0.2.2.1 = x1.2.2.1
  case neg => rw [if_pos (by rw [laws_eqEntryS, same_false.2 c2]; rfl), same_false.2 (fun h => c2 (congrArg (fun z : Log => z.2.2.1) h))]
  rw [if_neg (by rw [laws_eqEntryS, same_true.2 c2]; simp)]
  rw [same_true.2 (Prod.ext c0 (Prod.ext c1 (Prod.ext c2 rfl)))]
end laws_eqLog
def laws_toLog (x : Log) : Log := x
namespace laws_toLog
def pre (x : Log) : Bool := laws_toEntryS.pre x.2.2.1
abbrev wf (x0 : Log) : Prop := wfA [(.val (.pair (.int .i64) (.pair (.int .i64) (.pair (.sl 0 (.pair (.int .i64) (.pair (.pair (.int .i64) (.pair (.int .i64) (.pair (.int .i64) (.pair (.int .i64) (.pair (.int .i64) (.pair (.int .i64) (.pair .str (.pair .str .unit)))))))) .unit))) .unit))) .f)] (x0, ())
noncomputable def raw (x0 : Log) : Option (Unit × (Log × Unit)) :=
 if (laws_toEntryS.pre x0.2.2.1) = true then
  letB (laws_toEntryS x0.2.2.1) fun v1 =>
  some ((), ((x0.1, (x0.2.1, (v1, ()))), ()))
 else
  none
theorem eq (x0 : Log) (_ : wf x0) (hp : pre x0 = true) : raw x0 = some ((), (laws_toLog x0, ())) := by
  simp only [pre, Bool.and_eq_true] at hp
  unfold raw
  try simp only [letB]
  rw [if_pos hp]
  rfl
end laws_toLog
theorem toLog_pre {x : Log} (h : w_Log x ≤ 16777216) : laws_toLog.pre x = true := by
  simp only [w_Log] at h
  have n2 := wL_nn w_Entry_nn x.2.2.1
  simp only [laws_toLog.pre, Bool.and_eq_true]
  exact toEntryS_pre (by omega)
def laws_szLog (x : Log) (l : Int) : Int := szN (w_Log x) l
namespace laws_szLog
def pre (_ : Log) (l : Int) : Bool := decide (0 ≤ l) && decide (l ≤ maxLen)
abbrev wf (x0 : Log) (x1 : Int) : Prop := wfA [(.val (.pair (.int .i64) (.pair (.int .i64) (.pair (.sl 0 (.pair (.int .i64) (.pair (.pair (.int .i64) (.pair (.int .i64) (.pair (.int .i64) (.pair (.int .i64) (.pair (.int .i64) (.pair (.int .i64) (.pair .str (.pair .str .unit)))))))) .unit))) .unit))) .f), (.val (.int .i64) .f)] (x0, (x1, ()))
noncomputable def raw (x0 : Log) (x1 : Int) : Option (Unit × (Int × Unit)) :=
 if (laws_szEntryS.pre x0.2.2.1 x1) = true then
  letB (laws_szEntryS x0.2.2.1 x1) fun v1 =>
  if (decide (v1 < (0 : Int))) = true then
   some ((), ((-1 : Int), ()))
  else
   some ((), (v1, ()))
 else
  none
theorem eq (x0 : Log) (x1 : Int) (hw : wf x0 x1) (hp : pre x0 x1 = true) : raw x0 x1 = some ((), (laws_szLog x0 x1, ())) := by
  simp only [pre, Bool.and_eq_true, decide_eq_true_eq] at hp
  have hM := maxLen_eq
  have t2 := wL_nn w_Entry_nn x0.2.2.1
  unfold raw
  try simp only [letB]
  rw [if_pos (show laws_szEntryS.pre _ _ = true by simp only [laws_szEntryS.pre, Bool.and_eq_true, decide_eq_true_eq]; omega)]
  by_cases c2 : x1 - wL w_Entry x0.2.2.1 < 0
  · rw [show laws_szEntryS x0.2.2.1 (x1) = -1 from szN_neg c2, if_pos (by decide), show laws_szLog x0 x1 = -1 from szN_neg (by simp only [w_Log]; omega)]
  rw [show laws_szEntryS x0.2.2.1 (x1) = x1 - wL w_Entry x0.2.2.1 from szN_pos c2, if_neg (by rw [decide_eq_true_eq]; exact c2)]
  rw [show laws_szLog x0 x1 = x1 - wL w_Entry x0.2.2.1 from by rw [laws_szLog, szN_pos (by simp only [w_Log]; omega)]; simp only [w_Log]]
end laws_szLog
def w_Mark (_ : Mark) : Int := 0
theorem w_Mark_nn (x : Mark) : 0 ≤ w_Mark x := by
  simp only [w_Mark]; omega
noncomputable def laws_eqMark (a b : Mark) : Bool := same a b
namespace laws_eqMark
abbrev wf (x0 : Mark) (x1 : Mark) : Prop := wfA [(.val (.pair (.int .i64) (.pair (.int .i64) .unit)) .f), (.val (.pair (.int .i64) (.pair (.int .i64) .unit)) .f)] (x0, (x1, ()))
noncomputable def raw (x0 : Mark) (x1 : Mark) : Option (Unit × (Bool × Unit)) :=
 if (!(decide (x0.1 = x1.1))) = true then
  some ((), (false, ()))
 else
  if (!(decide (x0.2.1 = x1.2.1))) = true then
   some ((), (false, ()))
  else
   some ((), (true, ()))
theorem eq (x0 x1 : Mark) (_ : wf x0 x1) : raw x0 x1 = some ((), (laws_eqMark x0 x1, ())) := by
  unfold raw laws_eqMark
  try simp only [letB]
  by_cases c0 : x0.1 = x1.1
  case neg => rw [if_pos (by simp [c0]), same_false.2 (fun h => c0 (congrArg (fun z : Mark => z.1) h))]
  rw [if_neg (by simp [c0])]
  by_cases c1 : x0.2.1 = x1.2.1
  case neg => rw [if_pos (by simp [c1]), same_false.2 (fun h => c1 (congrArg (fun z : Mark => z.2.1) h))]
  rw [if_neg (by simp [c1])]
  rw [same_true.2 (Prod.ext c0 (Prod.ext c1 rfl))]
end laws_eqMark
def laws_toMark (x : Mark) : Mark := x
namespace laws_toMark
abbrev wf (x0 : Mark) : Prop := wfA [(.val (.pair (.int .i64) (.pair (.int .i64) .unit)) .f)] (x0, ())
noncomputable def raw (x0 : Mark) : Option (Unit × (Mark × Unit)) :=
 some ((), (x0, ()))
theorem eq (x0 : Mark) (_ : wf x0) : raw x0 = some ((), (laws_toMark x0, ())) := rfl
end laws_toMark
noncomputable def laws_eqMarkS (a b : List Mark) : Bool := same a b
namespace laws_eqMarkS
def pre4 := eqPre (α := Mark)
noncomputable def fn4 := eqFn (α := Mark)
def mu4 := eqMu (α := Mark)
noncomputable def raw4 (x1 : (List Mark)) (x2 : (List Mark)) (x3 : Int) : Option (((List Mark) × ((List Mark) × (Int × Unit))) ⊕ ((Bool × Unit) ⊕ Unit)) :=
 if (decide (x3 < ((List.length x1 : Nat) : Int))) = true then
  if (decide ((0 : Int) ≤ x3)) = true then
   if (decide (x3 < ((List.length x1 : Nat) : Int))) = true then
    if (decide ((0 : Int) ≤ x3)) = true then
     if (decide (x3 < ((List.length x2 : Nat) : Int))) = true then
      letB (laws_eqMark (List.getD x1 (Int.toNat x3) ((0 : Int), ((0 : Int), ()))) (List.getD x2 (Int.toNat x3) ((0 : Int), ((0 : Int), ())))) fun v1 =>
      if (!v1) = true then
       some (.inr (.inl (false, ())))
      else
       some (.inl (x1, (x2, ((IntKind.wrap .i64 (x3 + (1 : Int))), ()))))
     else
      none
    else
     none
   else
    none
  else
   none
 else
  some (.inr (.inr ()))
abbrev wf (x0 : (List Mark)) (x1 : (List Mark)) : Prop := wfA [(.val (.sl 0 (.pair (.int .i64) (.pair (.int .i64) .unit))) .f), (.val (.sl 0 (.pair (.int .i64) (.pair (.int .i64) .unit))) .f)] (x0, (x1, ()))
noncomputable def raw (x0 : (List Mark)) (x1 : (List Mark)) : Option (Unit × (Bool × Unit)) :=
 if (!(decide (((List.length x0 : Nat) : Int) = ((List.length x1 : Nat) : Int)))) = true then
  some ((), (false, ()))
 else
  if (laws_eqMarkS.pre4 (x0, (x1, ((0 : Int), ())))) = true then
   letB (laws_eqMarkS.fn4 (x0, (x1, ((0 : Int), ())))) fun v1 =>
   match v1 with
   | .inl y =>
    some ((), y)
   | .inr y =>
    some ((), (true, ()))
  else
   none
theorem ok4 (x1 x2 : List Mark) (x3 : Int) (hp : pre4 (x1, (x2, (x3, ()))) = true) : Rounds pre4 mu4 fn4 (x1, (x2, (x3, ()))) (raw4 x1 x2 x3) := by
  unfold raw4
  by_cases hlt : x3 < (x1.length : Int)
  · obtain ⟨h1, h2, h3, h4⟩ := eq_next hp hlt ((0 : Int), ((0 : Int), ()))
    simp only [letB, hlt, h1, h2, decide_true, if_true]
    by_cases h : x1.getD x3.toNat ((0 : Int), ((0 : Int), ())) = x2.getD x3.toNat ((0 : Int), ((0 : Int), ()))
    · rw [if_neg (by rw [laws_eqMark, same_true.2 h]; simp)]; exact h3 h
    · rw [if_pos (by rw [laws_eqMark, same_false.2 h]; rfl)]; exact h4 h
  · simp only [hlt, decide_false, Bool.false_eq_true, if_false]
    exact eq_end hp hlt
theorem eq (x0 x1 : List Mark) (hw : wf x0 x1) : raw x0 x1 = some ((), (laws_eqMarkS x0 x1, ())) := by
  have h1 : x0.length ≤ maxLen := hw.1.1
  unfold raw laws_eqMarkS
  by_cases hl : (x0.length : Int) = (x1.length : Int)
  · rw [if_neg (by simp [hl]), if_pos (show pre4 _ = true from eq_start h1 hl)]
    unfold fn4
    by_cases he : x0 = x1
    · rw [eqFn_eq he, same_true.2 he]; rfl
    · rw [eqFn_ne he, same_false.2 he]; rfl
  · have : ¬ x0 = x1 := fun h => hl (by rw [h])
    rw [if_pos (by simp [hl]), same_false.2 this]
end laws_eqMarkS
def laws_toMarkS (xs : List Mark) : List Mark := xs
namespace laws_toMarkS
def pre (xs : List Mark) : Bool := small xs && xs.all (fun _ => true)
noncomputable def pre3 := tcPreB (α := Mark) (fun _ => true)
def fn3 := toFn (α := Mark)
def mu3 := toMu (α := Mark)
noncomputable def raw3 (x1 : (List Mark)) (x2 : Int) (x3 : (List Mark)) : Option (((List Mark) × (Int × ((List Mark) × Unit))) ⊕ ((List Mark) × Unit)) :=
 if (decide (x2 < ((List.length x1 : Nat) : Int))) = true then
  if (decide ((0 : Int) ≤ x2)) = true then
   if (decide (x2 < ((List.length x1 : Nat) : Int))) = true then
    if (decide ((0 : Int) ≤ x2)) = true then
     if (decide (x2 < ((List.length x3 : Nat) : Int))) = true then
      some (.inl (x1, ((IntKind.wrap .i64 (x2 + (1 : Int))), ((List.modify x3 (Int.toNat x2) (fun z => (laws_toMark (List.getD x1 (Int.toNat x2) ((0 : Int), ((0 : Int), ())))))), ()))))
     else
      none
    else
     none
   else
    none
  else
   none
 else
  some (.inr (x3, ()))
abbrev wf (x0 : (List Mark)) : Prop := wfA [(.val (.sl 0 (.pair (.int .i64) (.pair (.int .i64) .unit))) .f)] (x0, ())
noncomputable def raw (x0 : (List Mark)) : Option (Unit × ((List Mark) × Unit)) :=
 if (decide ((0 : Int) ≤ ((List.length x0 : Nat) : Int))) = true then
  if (decide (((List.length x0 : Nat) : Int) ≤ ((List.length x0 : Nat) : Int))) = true then
   if (decide (((List.length x0 : Nat) : Int) ≤ (4294967296 : Int))) = true then
    if (laws_toMarkS.pre3 (x0, ((0 : Int), ((List.replicate (Int.toNat ((List.length x0 : Nat) : Int)) ((0 : Int), ((0 : Int), ()))), ())))) = true then
     letB (laws_toMarkS.fn3 (x0, ((0 : Int), ((List.replicate (Int.toNat ((List.length x0 : Nat) : Int)) ((0 : Int), ((0 : Int), ()))), ())))) fun v1 =>
     some ((), v1)
    else
     none
   else
    none
  else
   none
 else
  none
theorem ok3 (x1 : List Mark) (x2 : Int) (x3 : List Mark) (hp : pre3 (x1, (x2, (x3, ()))) = true) : Rounds pre3 mu3 fn3 (x1, (x2, (x3, ()))) (raw3 x1 x2 x3) := by
  unfold raw3
  by_cases hlt : x2 < (x1.length : Int)
  · obtain ⟨h1, h2, h3⟩ := tc_facts hp hlt ((0 : Int), ((0 : Int), ()))
    simp only [letB, hlt, h1, h2, h3, decide_true, if_true]
    exact tc_step hp hlt ((0 : Int), ((0 : Int), ())) rfl
  · rw [if_neg (by simp [hlt])]; exact tc_end hp hlt
theorem eq (x0 : List Mark) (hw : wf x0) (hp : pre x0 = true) : raw x0 = some ((), (laws_toMarkS x0, ())) := by
  have h1 : x0.length ≤ maxLen := hw.1.1
  simp only [pre, Bool.and_eq_true, small_iff] at hp
  unfold raw
  rw [if_pos (by simp), if_pos (by simp), if_pos (by simp; omega), if_pos (show pre3 _ = true from tc_start h1 hp.2 _)]
  rfl
end laws_toMarkS
theorem toMarkS_pre {xs : List Mark} (h : wL w_Mark xs ≤ 16777216) : laws_toMarkS.pre xs = true := by
  have hl := wL_nn w_Mark_nn xs
  simp only [laws_toMarkS.pre, Bool.and_eq_true, small_iff]
  exact ⟨by omega, by simp⟩
def laws_szMarkS (xs : List Mark) (l : Int) : Int := szN (wL w_Mark xs) l
namespace laws_szMarkS
def pre (_ : List Mark) (l : Int) : Bool := decide (0 ≤ l) && decide (l ≤ maxLen)
abbrev wf (x0 : (List Mark)) (x1 : Int) : Prop := wfA [(.val (.sl 0 (.pair (.int .i64) (.pair (.int .i64) .unit))) .f), (.val (.int .i64) .f)] (x0, (x1, ()))
noncomputable def raw (x0 : (List Mark)) (x1 : Int) : Option (Unit × (Int × Unit)) :=
 if (decide ((IntKind.wrap .i64 (x1 - ((List.length x0 : Nat) : Int))) < (0 : Int))) = true then
  some ((), ((-1 : Int), ()))
 else
  some ((), ((IntKind.wrap .i64 (x1 - ((List.length x0 : Nat) : Int))), ()))
theorem eq (x0 : List Mark) (x1 : Int) (hw : wf x0 x1) (hp : pre x0 x1 = true) : raw x0 x1 = some ((), (laws_szMarkS x0 x1, ())) := by
  have h1 : x0.length ≤ maxLen := hw.1.1
  simp only [pre, Bool.and_eq_true, decide_eq_true_eq] at hp
  have hM := maxLen_eq
  have hnn := sumW_nn w_Mark_nn x0
  unfold raw
  rw [w64 (n := x1 - (x0.length : Int)) (by omega) (by omega)]
  by_cases c : x1 - (x0.length : Int) < 0
  · rw [if_pos (decide_eq_true c), show laws_szMarkS x0 x1 = -1 from szN_neg (by simp only [wL]; omega)]
  · have hz : sumW w_Mark x0 = 0 := sumW_zero (fun _ => rfl) x0
    rw [if_neg (by rw [decide_eq_true_eq]; exact c), show laws_szMarkS x0 x1 = x1 - (x0.length : Int) from by rw [laws_szMarkS, szN_pos (by simp only [wL]; omega)]; simp only [wL]; omega]
end laws_szMarkS
def w_Item (x : Item) : Int := (x.2.1.length : Int) + (x.2.2.1.length : Int)
theorem w_Item_nn (x : Item) : 0 ≤ w_Item x := by
  simp only [w_Item]; omega
noncomputable def laws_eqItem (a b : Item) : Bool := same a b
namespace laws_eqItem
abbrev wf (x0 : Item) (x1 : Item) : Prop := wfA [(.val (.pair (.int .i64) (.pair .str (.pair .str (.pair (.int .i64) (.pair (.int .i64) .unit))))) .f), (.val (.pair (.int .i64) (.pair .str (.pair .str (.pair (.int .i64) (.pair (.int .i64) .unit))))) .f)] (x0, (x1, ()))
noncomputable def raw (x0 : Item) (x1 : Item) : Option (Unit × (Bool × Unit)) :=
 if (!(decide (x0.1 = x1.1))) = true then
  some ((), (false, ()))
 else
  if (!(x0.2.1 == x1.2.1)) = true then
   some ((), (false, ()))
  else
   if (!(x0.2.2.1 == x1.2.2.1)) = true then
    some ((), (false, ()))
   else
    if (!(decide (x0.2.2.2.1 = x1.2.2.2.1))) = true then
     some ((), (false, ()))
    else
     if (!(decide (x0.2.2.2.2.1 = x1.2.2.2.2.1))) = true then
      some ((), (false, ()))
     else
      some ((), (true, ()))
theorem eq (x0 x1 : Item) (_ : wf x0 x1) : raw x0 x1 = some ((), (laws_eqItem x0 x1, ())) := by
  unfold raw laws_eqItem
  try simp only [letB]
  by_cases c0 : x0.1 = x1.1
  case neg => rw [if_pos (by simp [c0]), same_false.2 (fun h => c0 (congrArg (fun z : Item => z.1) h))]
  rw [if_neg (by simp [c0])]
  by_cases c1 : x0.2.1 = x1.2.1
  case neg => rw [if_pos (by simp [c1]), same_false.2 (fun h => c1 (congrArg (fun z : Item => z.2.1) h))]
  rw [if_neg (by simp [c1])]
  by_cases c2 : x0.2.2.1 = x1.2.2.1
  case neg => rw [if_pos (by simp [c2]), same_false.2 (fun h => c2 (congrArg (fun z : Item => z.2.2.1) h))]
  rw [if_neg (by simp [c2])]
  by_cases c3 : x0.2.2.2.1 = x1.2.2.2.1
  case neg => rw [if_pos (by simp [c3]), same_false.2 (fun h => c3 (congrArg (fun z : Item => z.2.2.2.1) h))]
  rw [if_neg (by simp [c3])]
  by_cases c4 : x0.2.2.2.2.1 = x1.2.2.2.2.1
  case neg => rw [if_pos (by simp [c4]), same_false.2 (fun h => c4 (congrArg (fun z : Item => z.2.2.2.2.1) h))]
  rw [if_neg (by simp [c4])]
  rw [same_true.2 (Prod.ext c0 (Prod.ext c1 (Prod.ext c2 (Prod.ext c3 (Prod.ext c4 rfl)))))]
end laws_eqItem
def laws_toItem (x : Item) : Item := x
namespace laws_toItem
abbrev wf (x0 : Item) : Prop := wfA [(.val (.pair (.int .i64) (.pair .str (.pair .str (.pair (.int .i64) (.pair (.int .i64) .unit))))) .f)] (x0, ())
noncomputable def raw (x0 : Item) : Option (Unit × (Item × Unit)) :=
 some ((), (x0, ()))
theorem eq (x0 : Item) (_ : wf x0) : raw x0 = some ((), (laws_toItem x0, ())) := rfl
end laws_toItem
def laws_szItem (x : Item) (l : Int) : Int := szN (w_Item x) l
namespace laws_szItem
def pre (_ : Item) (l : Int) : Bool := decide (0 ≤ l) && decide (l ≤ maxLen)
abbrev wf (x0 : Item) (x1 : Int) : Prop := wfA [(.val (.pair (.int .i64) (.pair .str (.pair .str (.pair (.int .i64) (.pair (.int .i64) .unit))))) .f), (.val (.int .i64) .f)] (x0, (x1, ()))
noncomputable def raw (x0 : Item) (x1 : Int) : Option (Unit × (Int × Unit)) :=
 if (decide ((IntKind.wrap .i64 (x1 - ((List.length x0.2.1 : Nat) : Int))) < (0 : Int))) = true then
  some ((), ((-1 : Int), ()))
 else
  if (decide ((IntKind.wrap .i64 ((IntKind.wrap .i64 (x1 - ((List.length x0.2.1 : Nat) : Int))) - ((List.length x0.2.2.1 : Nat) : Int))) < (0 : Int))) = true then
   some ((), ((-1 : Int), ()))
  else
   some ((), ((IntKind.wrap .i64 ((IntKind.wrap .i64 (x1 - ((List.length x0.2.1 : Nat) : Int))) - ((List.length x0.2.2.1 : Nat) : Int))), ()))
theorem eq (x0 : Item) (x1 : Int) (hw : wf x0 x1) (hp : pre x0 x1 = true) : raw x0 x1 = some ((), (laws_szItem x0 x1, ())) := by
  simp only [pre, Bool.and_eq_true, decide_eq_true_eq] at hp
  have hM := maxLen_eq
  have t1 : x0.2.1.length ≤ maxLen := hw.1.2.1
  have t2 : x0.2.2.1.length ≤ maxLen := hw.1.2.2.1
  unfold raw
  try simp only [letB]
  rw [w64 (n := x1 - (x0.2.1.length : Int)) (by omega) (by omega)]
  by_cases c1 : x1 - (x0.2.1.length : Int) < 0
  · rw [if_pos (decide_eq_true c1), show laws_szItem x0 x1 = -1 from szN_neg (by simp only [w_Item]; omega)]
  rw [if_neg (by rw [decide_eq_true_eq]; exact c1)]
  rw [w64 (n := x1 - (x0.2.1.length : Int) - (x0.2.2.1.length : Int)) (by omega) (by omega)]
  by_cases c2 : x1 - (x0.2.1.length : Int) - (x0.2.2.1.length : Int) < 0
  · rw [if_pos (decide_eq_true c2), show laws_szItem x0 x1 = -1 from szN_neg (by simp only [w_Item]; omega)]
  rw [if_neg (by rw [decide_eq_true_eq]; exact c2)]
  rw [show laws_szItem x0 x1 = x1 - (x0.2.1.length : Int) - (x0.2.2.1.length : Int) from by rw [laws_szItem, szN_pos (by simp only [w_Item]; omega)]; simp only [w_Item]; omega]
end laws_szItem
noncomputable def laws_eqItemS (a b : List Item) : Bool := same a b
namespace laws_eqItemS
def pre4 := eqPre (α := Item)
noncomputable def fn4 := eqFn (α := Item)
def mu4 := eqMu (α := Item)
noncomputable def raw4 (x1 : (List Item)) (x2 : (List Item)) (x3 : Int) : Option (((List Item) × ((List Item) × (Int × Unit))) ⊕ ((Bool × Unit) ⊕ Unit)) :=
 if (decide (x3 < ((List.length x1 : Nat) : Int))) = true then
  if (decide ((0 : Int) ≤ x3)) = true then
   if (decide (x3 < ((List.length x1 : Nat) : Int))) = true then
    if (decide ((0 : Int) ≤ x3)) = true then
     if (decide (x3 < ((List.length x2 : Nat) : Int))) = true then
      letB (laws_eqItem (List.getD x1 (Int.toNat x3) ((0 : Int), (([] : List UInt8), (([] : List UInt8), ((0 : Int), ((0 : Int), ())))))) (List.getD x2 (Int.toNat x3) ((0 : Int), (([] : List UInt8), (([] : List UInt8), ((0 : Int), ((0 : Int), ()))))))) fun v1 =>
      if (!v1) = true then
       some (.inr (.inl (false, ())))
      else
       some (.inl (x1, (x2, ((IntKind.wrap .i64 (x3 + (1 : Int))), ()))))
     else
      none
    else
     none
   else
    none
  else
   none
 else
  some (.inr (.inr ()))
abbrev wf (x0 : (List Item)) (x1 : (List Item)) : Prop := wfA [(.val (.sl 0 (.pair (.int .i64) (.pair .str (.pair .str (.pair (.int .i64) (.pair (.int .i64) .unit)))))) .f), (.val (.sl 0 (.pair (.int .i64) (.pair .str (.pair .str (.pair (.int .i64) (.pair (.int .i64) .unit)))))) .f)] (x0, (x1, ()))
noncomputable def raw (x0 : (List Item)) (x1 : (List Item)) : Option (Unit × (Bool × Unit)) :=
 if (!(decide (((List.length x0 : Nat) : Int) = ((List.length x1 : Nat) : Int)))) = true then
  some ((), (false, ()))
 else
  if (laws_eqItemS.pre4 (x0, (x1, ((0 : Int), ())))) = true then
   letB (laws_eqItemS.fn4 (x0, (x1, ((0 : Int), ())))) fun v1 =>
   match v1 with
   | .inl y =>
    some ((), y)
   | .inr y =>
    some ((), (true, ()))
  else
   none
theorem ok4 (x1 x2 : List Item) (x3 : Int) (hp : pre4 (x1, (x2, (x3, ()))) = true) : Rounds pre4 mu4 fn4 (x1, (x2, (x3, ()))) (raw4 x1 x2 x3) := by
  unfold raw4
  by_cases hlt : x3 < (x1.length : Int)
  · obtain ⟨h1, h2, h3, h4⟩ := eq_next hp hlt ((0 : Int), (([] : List UInt8), (([] : List UInt8), ((0 : Int), ((0 : Int), ())))))
    simp only [letB, hlt, h1, h2, decide_true, if_true]
    by_cases h : x1.getD x3.toNat ((0 : Int), (([] : List UInt8), (([] : List UInt8), ((0 : Int), ((0 : Int), ()))))) = x2.getD x3.toNat ((0 : Int), (([] : List UInt8), (([] : List UInt8), ((0 : Int), ((0 : Int), ())))))
    · rw [if_neg (by rw [laws_eqItem, same_true.2 h]; simp)]; exact h3 h
    · rw [if_pos (by rw [laws_eqItem, same_false.2 h]; rfl)]; exact h4 h
  · simp only [hlt, decide_false, Bool.false_eq_true, if_false]
    exact eq_end hp hlt
theorem eq (x0 x1 : List Item) (hw : wf x0 x1) : raw x0 x1 = some ((), (laws_eqItemS x0 x1, ())) := by
  have h1 : x0.length ≤ maxLen := hw.1.1
  unfold raw laws_eqItemS
  by_cases hl : (x0.length : Int) = (x1.length : Int)
  · rw [if_neg (by simp [hl]), if_pos (show pre4 _ = true from eq_start h1 hl)]
    unfold fn4
    by_cases he : x0 = x1
    · rw [eqFn_eq he, same_true.2 he]; rfl
    · rw [eqFn_ne he, same_false.2 he]; rfl
  · have : ¬ x0 = x1 := fun h => hl (by rw [h])
    rw [if_pos (by simp [hl]), same_false.2 this]
end laws_eqItemS
def laws_toItemS (xs : List Item) : List Item := xs
namespace laws_toItemS
def pre (xs : List Item) : Bool := small xs && xs.all (fun _ => true)
noncomputable def pre3 := tcPreB (α := Item) (fun _ => true)
def fn3 := toFn (α := Item)
def mu3 := toMu (α := Item)
noncomputable def raw3 (x1 : (List Item)) (x2 : Int) (x3 : (List Item)) : Option (((List Item) × (Int × ((List Item) × Unit))) ⊕ ((List Item) × Unit)) :=
 if (decide (x2 < ((List.length x1 : Nat) : Int))) = true then
  if (decide ((0 : Int) ≤ x2)) = true then
   if (decide (x2 < ((List.length x1 : Nat) : Int))) = true then
    if (decide ((0 : Int) ≤ x2)) = true then
     if (decide (x2 < ((List.length x3 : Nat) : Int))) = true then
      some (.inl (x1, ((IntKind.wrap .i64 (x2 + (1 : Int))), ((List.modify x3 (Int.toNat x2) (fun z => (laws_toItem (List.getD x1 (Int.toNat x2) ((0 : Int), (([] : List UInt8), (([] : List UInt8), ((0 : Int), ((0 : Int), ()))))))))), ()))))
     else
      none
    else
     none
   else
    none
  else
   none
 else
  some (.inr (x3, ()))
abbrev wf (x0 : (List Item)) : Prop := wfA [(.val (.sl 0 (.pair (.int .i64) (.pair .str (.pair .str (.pair (.int .i64) (.pair (.int .i64) .unit)))))) .f)] (x0, ())
noncomputable def raw (x0 : (List Item)) : Option (Unit × ((List Item) × Unit)) :=
 if (decide ((0 : Int) ≤ ((List.length x0 : Nat) : Int))) = true then
  if (decide (((List.length x0 : Nat) : Int) ≤ ((List.length x0 : Nat) : Int))) = true then
   if (decide (((List.length x0 : Nat) : Int) ≤ (4294967296 : Int))) = true then
    if (laws_toItemS.pre3 (x0, ((0 : Int), ((List.replicate (Int.toNat ((List.length x0 : Nat) : Int)) ((0 : Int), (([] : List UInt8), (([] : List UInt8), ((0 : Int), ((0 : Int), ())))))), ())))) = true then
     letB (laws_toItemS.fn3 (x0, ((0 : Int), ((List.replicate (Int.toNat ((List.length x0 : Nat) : Int)) ((0 : Int), (([] : List UInt8), (([] : List UInt8), ((0 : Int), ((0 : Int), ())))))), ())))) fun v1 =>
     some ((), v1)
    else
     none
   else
    none
  else
   none
 else
  none
theorem ok3 (x1 : List Item) (x2 : Int) (x3 : List Item) (hp : pre3 (x1, (x2, (x3, ()))) = true) : Rounds pre3 mu3 fn3 (x1, (x2, (x3, ()))) (raw3 x1 x2 x3) := by
  unfold raw3
  by_cases hlt : x2 < (x1.length : Int)
  · obtain ⟨h1, h2, h3⟩ := tc_facts hp hlt ((0 : Int), (([] : List UInt8), (([] : List UInt8), ((0 : Int), ((0 : Int), ())))))
    simp only [letB, hlt, h1, h2, h3, decide_true, if_true]
    exact tc_step hp hlt ((0 : Int), (([] : List UInt8), (([] : List UInt8), ((0 : Int), ((0 : Int), ()))))) rfl
  · rw [if_neg (by simp [hlt])]; exact tc_end hp hlt
theorem eq (x0 : List Item) (hw : wf x0) (hp : pre x0 = true) : raw x0 = some ((), (laws_toItemS x0, ())) := by
  have h1 : x0.length ≤ maxLen := hw.1.1
  simp only [pre, Bool.and_eq_true, small_iff] at hp
  unfold raw
  rw [if_pos (by simp), if_pos (by simp), if_pos (by simp; omega), if_pos (show pre3 _ = true from tc_start h1 hp.2 _)]
  rfl
end laws_toItemS
theorem toItemS_pre {xs : List Item} (h : wL w_Item xs ≤ 16777216) : laws_toItemS.pre xs = true := by
  have hl := wL_nn w_Item_nn xs
  simp only [laws_toItemS.pre, Bool.and_eq_true, small_iff]
  exact ⟨by omega, by simp⟩
def laws_szItemS (xs : List Item) (l : Int) : Int := szN (wL w_Item xs) l
namespace laws_szItemS
def pre (_ : List Item) (l : Int) : Bool := decide (0 ≤ l) && decide (l ≤ maxLen)
def pre5 := swPre (α := Item)
def fn5 := swFn w_Item
def mu5 := szMu (α := Item)
noncomputable def raw5 (x1 : (List Item)) (x2 : Int) (x3 : Int) : Option (((List Item) × Mark) ⊕ ((Int × Unit) ⊕ (Int × Unit))) :=
 if (decide (x3 < ((List.length x1 : Nat) : Int))) = true then
  if (decide ((0 : Int) ≤ x3)) = true then
   if (decide (x3 < ((List.length x1 : Nat) : Int))) = true then
    if (laws_szItem.pre (List.getD x1 (Int.toNat x3) ((0 : Int), (([] : List UInt8), (([] : List UInt8), ((0 : Int), ((0 : Int), ())))))) x2) = true then
     letB (laws_szItem (List.getD x1 (Int.toNat x3) ((0 : Int), (([] : List UInt8), (([] : List UInt8), ((0 : Int), ((0 : Int), ())))))) x2) fun v1 =>
     if (decide (v1 < (0 : Int))) = true then
      some (.inr (.inl ((-1 : Int), ())))
     else
      some (.inl (x1, (v1, ((IntKind.wrap .i64 (x3 + (1 : Int))), ()))))
    else
     none
   else
    none
  else
   none
 else
  some (.inr (.inr (x2, ())))
abbrev wf (x0 : (List Item)) (x1 : Int) : Prop := wfA [(.val (.sl 0 (.pair (.int .i64) (.pair .str (.pair .str (.pair (.int .i64) (.pair (.int .i64) .unit)))))) .f), (.val (.int .i64) .f)] (x0, (x1, ()))
noncomputable def raw (x0 : (List Item)) (x1 : Int) : Option (Unit × (Int × Unit)) :=
 if (decide ((IntKind.wrap .i64 (x1 - ((List.length x0 : Nat) : Int))) < (0 : Int))) = true then
  some ((), ((-1 : Int), ()))
 else
  if (laws_szItemS.pre5 (x0, ((IntKind.wrap .i64 (x1 - ((List.length x0 : Nat) : Int))), ((0 : Int), ())))) = true then
   letB (laws_szItemS.fn5 (x0, ((IntKind.wrap .i64 (x1 - ((List.length x0 : Nat) : Int))), ((0 : Int), ())))) fun v1 =>
   match v1 with
   | .inl y =>
    some ((), y)
   | .inr y =>
    some ((), y)
  else
   none
theorem ok5 (x1 : List Item) (x2 x3 : Int) (hp : pre5 (x1, (x2, (x3, ()))) = true) : Rounds pre5 mu5 fn5 (x1, (x2, (x3, ()))) (raw5 x1 x2 x3) := by
  unfold raw5
  by_cases hlt : x3 < (x1.length : Int)
  · obtain ⟨h0, h1, h2⟩ := sw_facts hp
    have q : laws_szItem.pre (x1.getD x3.toNat ((0 : Int), (([] : List UInt8), (([] : List UInt8), ((0 : Int), ((0 : Int), ())))))) x2 = true := by simp only [laws_szItem.pre, Bool.and_eq_true, decide_eq_true_eq]; exact ⟨h1, h2⟩
    simp only [letB, hlt, h0, q, decide_true, if_true]
    by_cases c : x2 - w_Item (x1.getD x3.toNat ((0 : Int), (([] : List UInt8), (([] : List UInt8), ((0 : Int), ((0 : Int), ())))))) < 0
    · rw [show laws_szItem (x1.getD x3.toNat ((0 : Int), (([] : List UInt8), (([] : List UInt8), ((0 : Int), ((0 : Int), ())))))) x2 = -1 from szN_neg c, if_pos (by decide)]; exact sw_bad w_Item_nn hp hlt ((0 : Int), (([] : List UInt8), (([] : List UInt8), ((0 : Int), ((0 : Int), ()))))) c
    · rw [show laws_szItem (x1.getD x3.toNat ((0 : Int), (([] : List UInt8), (([] : List UInt8), ((0 : Int), ((0 : Int), ())))))) x2 = x2 - w_Item (x1.getD x3.toNat ((0 : Int), (([] : List UInt8), (([] : List UInt8), ((0 : Int), ((0 : Int), ())))))) from szN_pos c, if_neg (by rw [decide_eq_true_eq]; exact c)]; exact sw_good w_Item_nn hp hlt ((0 : Int), (([] : List UInt8), (([] : List UInt8), ((0 : Int), ((0 : Int), ()))))) c
  · rw [if_neg (by simp [hlt])]; exact sw_end hp hlt
theorem eq (x0 : List Item) (x1 : Int) (hw : wf x0 x1) (hp : pre x0 x1 = true) : raw x0 x1 = some ((), (laws_szItemS x0 x1, ())) := by
  have h1 : x0.length ≤ maxLen := hw.1.1
  simp only [pre, Bool.and_eq_true, decide_eq_true_eq] at hp
  have hM := maxLen_eq
  have hnn := sumW_nn w_Item_nn x0
  unfold raw
  rw [w64 (n := x1 - (x0.length : Int)) (by omega) (by omega)]
  by_cases c : x1 - (x0.length : Int) < 0
  · rw [if_pos (decide_eq_true c), show laws_szItemS x0 x1 = -1 from szN_neg (by simp only [wL]; omega)]
  · rw [if_neg (by rw [decide_eq_true_eq]; exact c), if_pos (show pre5 _ = true from sw_start h1 (by omega) (by omega))]
    exact swFn_start x0 x1
end laws_szItemS
def w_Row (x : Row) : Int := wL w_Item x.2.2.1
theorem w_Row_nn (x : Row) : 0 ≤ w_Row x := by
  have n2 := wL_nn w_Item_nn x.2.2.1
  simp only [w_Row]; omega
noncomputable def laws_eqRow (a b : Row) : Bool := same a b
namespace laws_eqRow
abbrev wf (x0 : Row) (x1 : Row) : Prop := wfA [(.val (.pair (.int .i64) (.pair (.int .i64) (.pair (.sl 0 (.pair (.int .i64) (.pair .str (.pair .str (.pair (.int .i64) (.pair (.int .i64) .unit)))))) .unit))) .f), (.val (.pair (.int .i64) (.pair (.int .i64) (.pair (.sl 0 (.pair (.int .i64) (.pair .str (.pair .str (.pair (.int .i64) (.pair (.int .i64) .unit)))))) .unit))) .f)] (x0, (x1, ()))
noncomputable def raw (x0 : Row) (x1 : Row) : Option (Unit × (Bool × Unit)) :=
 if (!(decide (x0.1 = x1.1))) = true then
  some ((), (false, ()))
 else
  if (!(decide (x0.2.1 = x1.2.1))) = true then
   some ((), (false, ()))
  else
   letB (laws_eqItemS x0.2.2.1 x1.2.2.1) fun v1 =>
   if (!v1) = true then
    some ((), (false, ()))
   else
    some ((), (true, ()))
theorem eq (x0 x1 : Row) (_ : wf x0 x1) : raw x0 x1 = some ((), (laws_eqRow x0 x1, ())) := by
  unfold raw laws_eqRow
  try simp only [letB]
  by_cases c0 : x0.1 = x1.1
  case neg => rw [if_pos (by simp [c0]), same_false.2 (fun h => c0 (congrArg (fun z : Row => z.1) h))]
  rw [if_neg (by simp [c0])]
  by_cases c1 : x0.2.1 = x1.2.1
  case neg => rw [if_pos (by simp [c1]), same_false.2 (fun h => c1 (congrArg (fun z : Row => z.2.1) h))]
  rw [if_neg (by simp [c1])]
  by_cases c2 : x0.2.2.1 = x1.2.2.1
  case neg => rw [if_pos (by rw [laws_eqItemS, same_false.2 c2]; rfl), same_false.2 (fun h => c2 (congrArg (fun z : Row => z.2.2.1) h))]
  rw [if_neg (by rw [laws_eqItemS, same_true.2 c2]; simp)]
  rw [same_true.2 (Prod.ext c0 (Prod.ext c1 (Prod.ext c2 rfl)))]
end laws_eqRow
def laws_toRow (x : Row) : Row := x
namespace laws_toRow
def pre (x : Row) : Bool := laws_toItemS.pre x.2.2.1
abbrev wf (x0 : Row) : Prop := wfA [(.val (.pair (.int .i64) (.pair (.int .i64) (.pair (.sl 0 (.pair (.int .i64) (.pair .str (.pair .str (.pair (.int .i64) (.pair (.int .i64) .unit)))))) .unit))) .f)] (x0, ())
noncomputable def raw (x0 : Row) : Option (Unit × (Row × Unit)) :=
 if (laws_toItemS.pre x0.2.2.1) = true then
  letB (laws_toItemS x0.2.2.1) fun v1 =>
  some ((), ((x0.1, (x0.2.1, (v1, ()))), ()))
 else
  none
theorem eq (x0 : Row) (_ : wf x0) (hp : pre x0 = true) : raw x0 = some ((), (laws_toRow x0, ())) := by
  simp only [pre, Bool.and_eq_true] at hp
  unfold raw
  try simp only [letB]
  rw [if_pos hp]
  rfl
end laws_toRow
theorem toRow_pre {x : Row} (h : w_Row x ≤ 16777216) : laws_toRow.pre x = true := by
  simp only [w_Row] at h
  have n2 := wL_nn w_Item_nn x.2.2.1
  simp only [laws_toRow.pre, Bool.and_eq_true]
  exact toItemS_pre (by omega)
def laws_szRow (x : Row) (l : Int) : Int := szN (w_Row x) l
namespace laws_szRow
def pre (_ : Row) (l : Int) : Bool := decide (0 ≤ l) && decide (l ≤ maxLen)
abbrev wf (x0 : Row) (x1 : Int) : Prop := wfA [(.val (.pair (.int .i64) (.pair (.int .i64) (.pair (.sl 0 (.pair (.int .i64) (.pair .str (.pair .str (.pair (.int .i64) (.pair (.int .i64) .unit)))))) .unit))) .f), (.val (.int .i64) .f)] (x0, (x1, ()))
noncomputable def raw (x0 : Row) (x1 : Int) : Option (Unit × (Int × Unit)) :=
 if (laws_szItemS.pre x0.2.2.1 x1) = true then
  letB (laws_szItemS x0.2.2.1 x1) fun v1 =>
  if (decide (v1 < (0 : Int))) = true then
   some ((), ((-1 : Int), ()))
  else
   some ((), (v1, ()))
 else
  none
theorem eq (x0 : Row) (x1 : Int) (hw : wf x0 x1) (hp : pre x0 x1 = true) : raw x0 x1 = some ((), (laws_szRow x0 x1, ())) := by
  simp only [pre, Bool.and_eq_true, decide_eq_true_eq] at hp
  have hM := maxLen_eq
  have t2 := wL_nn w_Item_nn x0.2.2.1
  unfold raw
  try simp only [letB]
  rw [if_pos (show laws_szItemS.pre _ _ = true by simp only [laws_szItemS.pre, Bool.and_eq_true, decide_eq_true_eq]; omega)]
  by_cases c2 : x1 - wL w_Item x0.2.2.1 < 0
  · rw [show laws_szItemS x0.2.2.1 (x1) = -1 from szN_neg c2, if_pos (by decide), show laws_szRow x0 x1 = -1 from szN_neg (by simp only [w_Row]; omega)]
  rw [show laws_szItemS x0.2.2.1 (x1) = x1 - wL w_Item x0.2.2.1 from szN_pos c2, if_neg (by rw [decide_eq_true_eq]; exact c2)]
  rw [show laws_szRow x0 x1 = x1 - wL w_Item x0.2.2.1 from by rw [laws_szRow, szN_pos (by simp only [w_Row]; omega)]; simp only [w_Row]]
end laws_szRow
noncomputable def laws_eqRowS (a b : List Row) : Bool := same a b
namespace laws_eqRowS
def pre4 := eqPre (α := Row)
noncomputable def fn4 := eqFn (α := Row)
def mu4 := eqMu (α := Row)
noncomputable def raw4 (x1 : (List Row)) (x2 : (List Row)) (x3 : Int) : Option (((List Row) × ((List Row) × (Int × Unit))) ⊕ ((Bool × Unit) ⊕ Unit)) :=
 if (decide (x3 < ((List.length x1 : Nat) : Int))) = true then
  if (decide ((0 : Int) ≤ x3)) = true then
   if (decide (x3 < ((List.length x1 : Nat) : Int))) = true then
    if (decide ((0 : Int) ≤ x3)) = true then
     if (decide (x3 < ((List.length x2 : Nat) : Int))) = true then
      letB (laws_eqRow (List.getD x1 (Int.toNat x3) ((0 : Int), ((0 : Int), (([] : List Item), ())))) (List.getD x2 (Int.toNat x3) ((0 : Int), ((0 : Int), (([] : List Item), ()))))) fun v1 =>
      if (!v1) = true then
       some (.inr (.inl (false, ())))
      else
       some (.inl (x1, (x2, ((IntKind.wrap .i64 (x3 + (1 : Int))), ()))))
     else
      none
    else
     none
   else
    none
  else
   none
 else
  some (.inr (.inr ()))
abbrev wf (x0 : (List Row)) (x1 : (List Row)) : Prop := wfA [(.val (.sl 0 (.pair (.int .i64) (.pair (.int .i64) (.pair (.sl 0 (.pair (.int .i64) (.pair .str (.pair .str (.pair (.int .i64) (.pair (.int .i64) .unit)))))) .unit)))) .f), (.val (.sl 0 (.pair (.int .i64) (.pair (.int .i64) (.pair (.sl 0 (.pair (.int .i64) (.pair .str (.pair .str (.pair (.int .i64) (.pair (.int .i64) .unit)))))) .unit)))) .f)] (x0, (x1, ()))
noncomputable def raw (x0 : (List Row)) (x1 : (List Row)) : Option (Unit × (Bool × Unit)) :=
 if (!(decide (((List.length x0 : Nat) : Int) = ((List.length x1 : Nat) : Int)))) = true then
  some ((), (false, ()))
 else
  if (laws_eqRowS.pre4 (x0, (x1, ((0 : Int), ())))) = true then
   letB (laws_eqRowS.fn4 (x0, (x1, ((0 : Int), ())))) fun v1 =>
   match v1 with
   | .inl y =>
    some ((), y)
   | .inr y =>
    some ((), (true, ()))
  else
   none
theorem ok4 (x1 x2 : List Row) (x3 : Int) (hp : pre4 (x1, (x2, (x3, ()))) = true) : Rounds pre4 mu4 fn4 (x1, (x2, (x3, ()))) (raw4 x1 x2 x3) := by
  unfold raw4
  by_cases hlt : x3 < (x1.length : Int)
  · obtain ⟨h1, h2, h3, h4⟩ := eq_next hp hlt ((0 : Int), ((0 : Int), (([] : List Item), ())))
    simp only [letB, hlt, h1, h2, decide_true, if_true]
    by_cases h : x1.getD x3.toNat ((0 : Int), ((0 : Int), (([] : List Item), ()))) = x2.getD x3.toNat ((0 : Int), ((0 : Int), (([] : List Item), ())))
    · rw [if_neg (by rw [laws_eqRow, same_true.2 h]; simp)]; exact h3 h
    · rw [if_pos (by rw [laws_eqRow, same_false.2 h]; rfl)]; exact h4 h
  · simp only [hlt, decide_false, Bool.false_eq_true, if_false]
    exact eq_end hp hlt
theorem eq (x0 x1 : List Row) (hw : wf x0 x1) : raw x0 x1 = some ((), (laws_eqRowS x0 x1, ())) := by
  have h1 : x0.length ≤ maxLen := hw.1.1
  unfold raw laws_eqRowS
  by_cases hl : (x0.length : Int) = (x1.length : Int)
  · rw [if_neg (by simp [hl]), if_pos (show pre4 _ = true from eq_start h1 hl)]
    unfold fn4
    by_cases he : x0 = x1
    · rw [eqFn_eq he, same_true.2 he]; rfl
    · rw [eqFn_ne he, same_false.2 he]; rfl
  · have : ¬ x0 = x1 := fun h => hl (by rw [h])
    rw [if_pos (by simp [hl]), same_false.2 this]
end laws_eqRowS
def laws_toRowS (xs : List Row) : List Row := xs
namespace laws_toRowS
def pre (xs : List Row) : Bool := small xs && xs.all laws_toRow.pre
noncomputable def pre3 := tcPreB (α := Row) laws_toRow.pre
def fn3 := toFn (α := Row)
def mu3 := toMu (α := Row)
noncomputable def raw3 (x1 : (List Row)) (x2 : Int) (x3 : (List Row)) : Option (((List Row) × (Int × ((List Row) × Unit))) ⊕ ((List Row) × Unit)) :=
 if (decide (x2 < ((List.length x1 : Nat) : Int))) = true then
  if (decide ((0 : Int) ≤ x2)) = true then
   if (decide (x2 < ((List.length x1 : Nat) : Int))) = true then
    if (laws_toRow.pre (List.getD x1 (Int.toNat x2) ((0 : Int), ((0 : Int), (([] : List Item), ()))))) = true then
     if (decide ((0 : Int) ≤ x2)) = true then
      if (decide (x2 < ((List.length x3 : Nat) : Int))) = true then
       some (.inl (x1, ((IntKind.wrap .i64 (x2 + (1 : Int))), ((List.modify x3 (Int.toNat x2) (fun z => (laws_toRow (List.getD x1 (Int.toNat x2) ((0 : Int), ((0 : Int), (([] : List Item), ()))))))), ()))))
      else
       none
     else
      none
    else
     none
   else
    none
  else
   none
 else
  some (.inr (x3, ()))
abbrev wf (x0 : (List Row)) : Prop := wfA [(.val (.sl 0 (.pair (.int .i64) (.pair (.int .i64) (.pair (.sl 0 (.pair (.int .i64) (.pair .str (.pair .str (.pair (.int .i64) (.pair (.int .i64) .unit)))))) .unit)))) .f)] (x0, ())
noncomputable def raw (x0 : (List Row)) : Option (Unit × ((List Row) × Unit)) :=
 if (decide ((0 : Int) ≤ ((List.length x0 : Nat) : Int))) = true then
  if (decide (((List.length x0 : Nat) : Int) ≤ ((List.length x0 : Nat) : Int))) = true then
   if (decide (((List.length x0 : Nat) : Int) ≤ (4294967296 : Int))) = true then
    if (laws_toRowS.pre3 (x0, ((0 : Int), ((List.replicate (Int.toNat ((List.length x0 : Nat) : Int)) ((0 : Int), ((0 : Int), (([] : List Item), ())))), ())))) = true then
     letB (laws_toRowS.fn3 (x0, ((0 : Int), ((List.replicate (Int.toNat ((List.length x0 : Nat) : Int)) ((0 : Int), ((0 : Int), (([] : List Item), ())))), ())))) fun v1 =>
     some ((), v1)
    else
     none
   else
    none
  else
   none
 else
  none
theorem ok3 (x1 : List Row) (x2 : Int) (x3 : List Row) (hp : pre3 (x1, (x2, (x3, ()))) = true) : Rounds pre3 mu3 fn3 (x1, (x2, (x3, ()))) (raw3 x1 x2 x3) := by
  unfold raw3
  by_cases hlt : x2 < (x1.length : Int)
  · obtain ⟨h1, h2, h3⟩ := tc_facts hp hlt ((0 : Int), ((0 : Int), (([] : List Item), ())))
    simp only [letB, hlt, h1, h2, h3, decide_true, if_true]
    exact tc_step hp hlt ((0 : Int), ((0 : Int), (([] : List Item), ()))) rfl
  · rw [if_neg (by simp [hlt])]; exact tc_end hp hlt
theorem eq (x0 : List Row) (hw : wf x0) (hp : pre x0 = true) : raw x0 = some ((), (laws_toRowS x0, ())) := by
  have h1 : x0.length ≤ maxLen := hw.1.1
  simp only [pre, Bool.and_eq_true, small_iff] at hp
  unfold raw
  rw [if_pos (by simp), if_pos (by simp), if_pos (by simp; omega), if_pos (show pre3 _ = true from tc_start h1 hp.2 _)]
  rfl
end laws_toRowS
theorem toRowS_pre {xs : List Row} (h : wL w_Row xs ≤ 16777216) : laws_toRowS.pre xs = true := by
  have hl := wL_nn w_Row_nn xs
  simp only [laws_toRowS.pre, Bool.and_eq_true, small_iff]
  refine ⟨by omega, List.all_eq_true.2 fun x hx => toRow_pre ?_⟩
  have := wL_get w_Row_nn hx
  omega
def laws_szRowS (xs : List Row) (l : Int) : Int := szN (wL w_Row xs) l
namespace laws_szRowS
def pre (_ : List Row) (l : Int) : Bool := decide (0 ≤ l) && decide (l ≤ maxLen)
def pre5 := swPre (α := Row)
def fn5 := swFn w_Row
def mu5 := szMu (α := Row)
noncomputable def raw5 (x1 : (List Row)) (x2 : Int) (x3 : Int) : Option (((List Row) × Mark) ⊕ ((Int × Unit) ⊕ (Int × Unit))) :=
 if (decide (x3 < ((List.length x1 : Nat) : Int))) = true then
  if (decide ((0 : Int) ≤ x3)) = true then
   if (decide (x3 < ((List.length x1 : Nat) : Int))) = true then
    if (laws_szRow.pre (List.getD x1 (Int.toNat x3) ((0 : Int), ((0 : Int), (([] : List Item), ())))) x2) = true then
     letB (laws_szRow (List.getD x1 (Int.toNat x3) ((0 : Int), ((0 : Int), (([] : List Item), ())))) x2) fun v1 =>
     if (decide (v1 < (0 : Int))) = true then
      some (.inr (.inl ((-1 : Int), ())))
     else
      some (.inl (x1, (v1, ((IntKind.wrap .i64 (x3 + (1 : Int))), ()))))
    else
     none
   else
    none
  else
   none
 else
  some (.inr (.inr (x2, ())))
abbrev wf (x0 : (List Row)) (x1 : Int) : Prop := wfA [(.val (.sl 0 (.pair (.int .i64) (.pair (.int .i64) (.pair (.sl 0 (.pair (.int .i64) (.pair .str (.pair .str (.pair (.int .i64) (.pair (.int .i64) .unit)))))) .unit)))) .f), (.val (.int .i64) .f)] (x0, (x1, ()))
noncomputable def raw (x0 : (List Row)) (x1 : Int) : Option (Unit × (Int × Unit)) :=
 if (decide ((IntKind.wrap .i64 (x1 - ((List.length x0 : Nat) : Int))) < (0 : Int))) = true then
  some ((), ((-1 : Int), ()))
 else
  if (laws_szRowS.pre5 (x0, ((IntKind.wrap .i64 (x1 - ((List.length x0 : Nat) : Int))), ((0 : Int), ())))) = true then
   letB (laws_szRowS.fn5 (x0, ((IntKind.wrap .i64 (x1 - ((List.length x0 : Nat) : Int))), ((0 : Int), ())))) fun v1 =>
   match v1 with
   | .inl y =>
    some ((), y)
   | .inr y =>
    some ((), y)
  else
   none
theorem ok5 (x1 : List Row) (x2 x3 : Int) (hp : pre5 (x1, (x2, (x3, ()))) = true) : Rounds pre5 mu5 fn5 (x1, (x2, (x3, ()))) (raw5 x1 x2 x3) := by
  unfold raw5
  by_cases hlt : x3 < (x1.length : Int)
  · obtain ⟨h0, h1, h2⟩ := sw_facts hp
    have q : laws_szRow.pre (x1.getD x3.toNat ((0 : Int), ((0 : Int), (([] : List Item), ())))) x2 = true := by simp only [laws_szRow.pre, Bool.and_eq_true, decide_eq_true_eq]; exact ⟨h1, h2⟩
    simp only [letB, hlt, h0, q, decide_true, if_true]
    by_cases c : x2 - w_Row (x1.getD x3.toNat ((0 : Int), ((0 : Int), (([] : List Item), ())))) < 0
    · rw [show laws_szRow (x1.getD x3.toNat ((0 : Int), ((0 : Int), (([] : List Item), ())))) x2 = -1 from szN_neg c, if_pos (by decide)]; exact sw_bad w_Row_nn hp hlt ((0 : Int), ((0 : Int), (([] : List Item), ()))) c
    · rw [show laws_szRow (x1.getD x3.toNat ((0 : Int), ((0 : Int), (([] : List Item), ())))) x2 = x2 - w_Row (x1.getD x3.toNat ((0 : Int), ((0 : Int), (([] : List Item), ())))) from szN_pos c, if_neg (by rw [decide_eq_true_eq]; exact c)]; exact sw_good w_Row_nn hp hlt ((0 : Int), ((0 : Int), (([] : List Item), ()))) c
  · rw [if_neg (by simp [hlt])]; exact sw_end hp hlt
theorem eq (x0 : List Row) (x1 : Int) (hw : wf x0 x1) (hp : pre x0 x1 = true) : raw x0 x1 = some ((), (laws_szRowS x0 x1, ())) := by
  have h1 : x0.length ≤ maxLen := hw.1.1
  simp only [pre, Bool.and_eq_true, decide_eq_true_eq] at hp
  have hM := maxLen_eq
  have hnn := sumW_nn w_Row_nn x0
  unfold raw
  rw [w64 (n := x1 - (x0.length : Int)) (by omega) (by omega)]
  by_cases c : x1 - (x0.length : Int) < 0
  · rw [if_pos (decide_eq_true c), show laws_szRowS x0 x1 = -1 from szN_neg (by simp only [wL]; omega)]
  · rw [if_neg (by rw [decide_eq_true_eq]; exact c), if_pos (show pre5 _ = true from sw_start h1 (by omega) (by omega))]
    exact swFn_start x0 x1
end laws_szRowS
def w_Maker (x : Maker) : Int := wL w_Mark x.2.2.2.2.1
theorem w_Maker_nn (x : Maker) : 0 ≤ w_Maker x := by
  have n4 := wL_nn w_Mark_nn x.2.2.2.2.1
  simp only [w_Maker]; omega
noncomputable def laws_eqMaker (a b : Maker) : Bool := same a b
namespace laws_eqMaker
abbrev wf (x0 : Maker) (x1 : Maker) : Prop := wfA [(.val (.pair (.int .i64) (.pair (.int .i64) (.pair (.int .i64) (.pair (.int .i64) (.pair (.sl 0 (.pair (.int .i64) (.pair (.int .i64) .unit))) .unit))))) .f), (.val (.pair (.int .i64) (.pair (.int .i64) (.pair (.int .i64) (.pair (.int .i64) (.pair (.sl 0 (.pair (.int .i64) (.pair (.int .i64) .unit))) .unit))))) .f)] (x0, (x1, ()))
noncomputable def raw (x0 : Maker) (x1 : Maker) : Option (Unit × (Bool × Unit)) :=
 if (!(decide (x0.1 = x1.1))) = true then
  some ((), (false, ()))
 else
  if (!(decide (x0.2.1 = x1.2.1))) = true then
   some ((), (false, ()))
  else
   if (!(decide (x0.2.2.1 = x1.2.2.1))) = true then
    some ((), (false, ()))
   else
    if (!(decide (x0.2.2.2.1 = x1.2.2.2.1))) = true then
     some ((), (false, ()))
    else
     letB (laws_eqMarkS x0.2.2.2.2.1 x1.2.2.2.2.1) fun v1 =>
     if (!v1) = true then
      some ((), (false, ()))
     else
      some ((), (true, ()))
theorem eq (x0 x1 : Maker) (_ : wf x0 x1) : raw x0 x1 = some ((), (laws_eqMaker x0 x1, ())) := by
  unfold raw laws_eqMaker
  try simp only [letB]
  by_cases c0 : x0.1 = x1.1
  case neg => rw [if_pos (by simp [c0]), same_false.2 (fun h => c0 (congrArg (fun z : Maker => z.1) h))]
  rw [if_neg (by simp [c0])]
  by_cases c1 : x0.2.1 = x1.2.1
  case neg => rw [if_pos (by simp [c1]), same_false.2 (fun h => c1 (congrArg (fun z : Maker => z.2.1) h))]
  rw [if_neg (by simp [c1])]
  by_cases c2 : x0.2.2.1 = x1.2.2.1
  case neg => rw [if_pos (by simp [c2]), same_false.2 (fun h => c2 (congrArg (fun z : Maker => z.2.2.1) h))]
  rw [if_neg (by simp [c2])]
  by_cases c3 : x0.2.2.2.1 = x1.2.2.2.1
  case neg => rw [if_pos (by simp [c3]), same_false.2 (fun h => c3 (congrArg (fun z : Maker => z.2.2.2.1) h))]
  rw [if_neg (by simp [c3])]
  by_cases c4 : x0.2.2.2.2.1 = x1.2.2.2.2.1
  case neg => rw [if_pos (by rw [laws_eqMarkS, same_false.2 c4]; rfl), same_false.2 (fun h => c4 (congrArg (fun z : Maker => z.2.2.2.2.1) h))]
  rw [if_neg (by rw [laws_eqMarkS, same_true.2 c4]; simp)]
  rw [same_true.2 (Prod.ext c0 (Prod.ext c1 (Prod.ext c2 (Prod.ext c3 (Prod.ext c4 rfl)))))]
end laws_eqMaker
def laws_toMaker (x : Maker) : Maker := x
namespace laws_toMaker
def pre (x : Maker) : Bool := laws_toMarkS.pre x.2.2.2.2.1
abbrev wf (x0 : Maker) : Prop := wfA [(.val (.pair (.int .i64) (.pair (.int .i64) (.pair (.int .i64) (.pair (.int .i64) (.pair (.sl 0 (.pair (.int .i64) (.pair (.int .i64) .unit))) .unit))))) .f)] (x0, ())
noncomputable def raw (x0 : Maker) : Option (Unit × (Maker × Unit)) :=
 if (laws_toMarkS.pre x0.2.2.2.2.1) = true then
  letB (laws_toMarkS x0.2.2.2.2.1) fun v1 =>
  some ((), ((x0.1, (x0.2.1, (x0.2.2.1, (x0.2.2.2.1, (v1, ()))))), ()))
 else
  none
theorem eq (x0 : Maker) (_ : wf x0) (hp : pre x0 = true) : raw x0 = some ((), (laws_toMaker x0, ())) := by
  simp only [pre, Bool.and_eq_true] at hp
  unfold raw
  try simp only [letB]
  rw [if_pos hp]
  rfl
end laws_toMaker
theorem toMaker_pre {x : Maker} (h : w_Maker x ≤ 16777216) : laws_toMaker.pre x = true := by
  simp only [w_Maker] at h
  have n4 := wL_nn w_Mark_nn x.2.2.2.2.1
  simp only [laws_toMaker.pre, Bool.and_eq_true]
  exact toMarkS_pre (by omega)
def laws_szMaker (x : Maker) (l : Int) : Int := szN (w_Maker x) l
namespace laws_szMaker
def pre (_ : Maker) (l : Int) : Bool := decide (0 ≤ l) && decide (l ≤ maxLen)
abbrev wf (x0 : Maker) (x1 : Int) : Prop := wfA [(.val (.pair (.int .i64) (.pair (.int .i64) (.pair (.int .i64) (.pair (.int .i64) (.pair (.sl 0 (.pair (.int .i64) (.pair (.int .i64) .unit))) .unit))))) .f), (.val (.int .i64) .f)] (x0, (x1, ()))
noncomputable def raw (x0 : Maker) (x1 : Int) : Option (Unit × (Int × Unit)) :=
 if (laws_szMarkS.pre x0.2.2.2.2.1 x1) = true then
  letB (laws_szMarkS x0.2.2.2.2.1 x1) fun v1 =>
  if (decide (v1 < (0 : Int))) = true then
   some ((), ((-1 : Int), ()))
  else
   some ((), (v1, ()))
 else
  none
theorem eq (x0 : Maker) (x1 : Int) (hw : wf x0 x1) (hp : pre x0 x1 = true) : raw x0 x1 = some ((), (laws_szMaker x0 x1, ())) := by
  simp only [pre, Bool.and_eq_true, decide_eq_true_eq] at hp
  have hM := maxLen_eq
  have t4 := wL_nn w_Mark_nn x0.2.2.2.2.1
  unfold raw
  try simp only [letB]
  rw [if_pos (show laws_szMarkS.pre _ _ = true by simp only [laws_szMarkS.pre, Bool.and_eq_true, decide_eq_true_eq]; omega)]
  by_cases c4 : x1 - wL w_Mark x0.2.2.2.2.1 < 0
  · rw [show laws_szMarkS x0.2.2.2.2.1 (x1) = -1 from szN_neg c4, if_pos (by decide), show laws_szMaker x0 x1 = -1 from szN_neg (by simp only [w_Maker]; omega)]
  rw [show laws_szMarkS x0.2.2.2.2.1 (x1) = x1 - wL w_Mark x0.2.2.2.2.1 from szN_pos c4, if_neg (by rw [decide_eq_true_eq]; exact c4)]
  rw [show laws_szMaker x0 x1 = x1 - wL w_Mark x0.2.2.2.2.1 from by rw [laws_szMaker, szN_pos (by simp only [w_Maker]; omega)]; simp only [w_Maker]]
end laws_szMaker
noncomputable def laws_eqMakerS (a b : List Maker) : Bool := same a b
namespace laws_eqMakerS
def pre4 := eqPre (α := Maker)
noncomputable def fn4 := eqFn (α := Maker)
def mu4 := eqMu (α := Maker)
noncomputable def raw4 (x1 : (List Maker)) (x2 : (List Maker)) (x3 : Int) : Option (((List Maker) × ((List Maker) × (Int × Unit))) ⊕ ((Bool × Unit) ⊕ Unit)) :=
 if (decide (x3 < ((List.length x1 : Nat) : Int))) = true then
  if (decide ((0 : Int) ≤ x3)) = true then
   if (decide (x3 < ((List.length x1 : Nat) : Int))) = true then
    if (decide ((0 : Int) ≤ x3)) = true then
     if (decide (x3 < ((List.length x2 : Nat) : Int))) = true then
      letB (laws_eqMaker (List.getD x1 (Int.toNat x3) ((0 : Int), ((0 : Int), ((0 : Int), ((0 : Int), (([] : List Mark), ())))))) (List.getD x2 (Int.toNat x3) ((0 : Int), ((0 : Int), ((0 : Int), ((0 : Int), (([] : List Mark), ()))))))) fun v1 =>
      if (!v1) = true then
       some (.inr (.inl (false, ())))
      else
       some (.inl (x1, (x2, ((IntKind.wrap .i64 (x3 + (1 : Int))), ()))))
     else
      none
    else
     none
   else
    none
  else
   none
 else
  some (.inr (.inr ()))
abbrev wf (x0 : (List Maker)) (x1 : (List Maker)) : Prop := wfA [(.val (.sl 0 (.pair (.int .i64) (.pair (.int .i64) (.pair (.int .i64) (.pair (.int .i64) (.pair (.sl 0 (.pair (.int .i64) (.pair (.int .i64) .unit))) .unit)))))) .f), (.val (.sl 0 (.pair (.int .i64) (.pair (.int .i64) (.pair (.int .i64) (.pair (.int .i64) (.pair (.sl 0 (.pair (.int .i64) (.pair (.int .i64) .unit))) .unit)))))) .f)] (x0, (x1, ()))
noncomputable def raw (x0 : (List Maker)) (x1 : (List Maker)) : Option (Unit × (Bool × Unit)) :=
 if (!(decide (((List.length x0 : Nat) : Int) = ((List.length x1 : Nat) : Int)))) = true then
  some ((), (false, ()))
 else
  if (laws_eqMakerS.pre4 (x0, (x1, ((0 : Int), ())))) = true then
   letB (laws_eqMakerS.fn4 (x0, (x1, ((0 : Int), ())))) fun v1 =>
   match v1 with
   | .inl y =>
    some ((), y)
   | .inr y =>
    some ((), (true, ()))
  else
   none
theorem ok4 (x1 x2 : List Maker) (x3 : Int) (hp : pre4 (x1, (x2, (x3, ()))) = true) : Rounds pre4 mu4 fn4 (x1, (x2, (x3, ()))) (raw4 x1 x2 x3) := by
  unfold raw4
  by_cases hlt : x3 < (x1.length : Int)
  · obtain ⟨h1, h2, h3, h4⟩ := eq_next hp hlt ((0 : Int), ((0 : Int), ((0 : Int), ((0 : Int), (([] : List Mark), ())))))
    simp only [letB, hlt, h1, h2, decide_true, if_true]
    by_cases h : x1.getD x3.toNat ((0 : Int), ((0 : Int), ((0 : Int), ((0 : Int), (([] : List Mark), ()))))) = x2.getD x3.toNat ((0 : Int), ((0 : Int), ((0 : Int), ((0 : Int), (([] : List Mark), ())))))
    · rw [if_neg (by rw [laws_eqMaker, same_true.2 h]; simp)]; exact h3 h
    · rw [if_pos (by rw [laws_eqMaker, same_false.2 h]; rfl)]; exact h4 h
  · simp only [hlt, decide_false, Bool.false_eq_true, if_false]
    exact eq_end hp hlt
theorem eq (x0 x1 : List Maker) (hw : wf x0 x1) : raw x0 x1 = some ((), (laws_eqMakerS x0 x1, ())) := by
  have h1 : x0.length ≤ maxLen := hw.1.1
  unfold raw laws_eqMakerS
  by_cases hl : (x0.length : Int) = (x1.length : Int)
  · rw [if_neg (by simp [hl]), if_pos (show pre4 _ = true from eq_start h1 hl)]
    unfold fn4
    by_cases he : x0 = x1
    · rw [eqFn_eq he, same_true.2 he]; rfl
    · rw [eqFn_ne he, same_false.2 he]; rfl
  · have : ¬ x0 = x1 := fun h => hl (by rw [h])
    rw [if_pos (by simp [hl]), same_false.2 this]
end laws_eqMakerS
def laws_toMakerS (xs : List Maker) : List Maker := xs
namespace laws_toMakerS
def pre (xs : List Maker) : Bool := small xs && xs.all laws_toMaker.pre
noncomputable def pre3 := tcPreB (α := Maker) laws_toMaker.pre
def fn3 := toFn (α := Maker)
def mu3 := toMu (α := Maker)
noncomputable def raw3 (x1 : (List Maker)) (x2 : Int) (x3 : (List Maker)) : Option (((List Maker) × (Int × ((List Maker) × Unit))) ⊕ ((List Maker) × Unit)) :=
 if (decide (x2 < ((List.length x1 : Nat) : Int))) = true then
  if (decide ((0 : Int) ≤ x2)) = true then
   if (decide (x2 < ((List.length x1 : Nat) : Int))) = true then
    if (laws_toMaker.pre (List.getD x1 (Int.toNat x2) ((0 : Int), ((0 : Int), ((0 : Int), ((0 : Int), (([] : List Mark), ()))))))) = true then
     if (decide ((0 : Int) ≤ x2)) = true then
      if (decide (x2 < ((List.length x3 : Nat) : Int))) = true then
       some (.inl (x1, ((IntKind.wrap .i64 (x2 + (1 : Int))), ((List.modify x3 (Int.toNat x2) (fun z => (laws_toMaker (List.getD x1 (Int.toNat x2) ((0 : Int), ((0 : Int), ((0 : Int), ((0 : Int), (([] : List Mark), ()))))))))), ()))))
      else
       none
     else
      none
    else
     none
   else
    none
  else
   none
 else
  some (.inr (x3, ()))
abbrev wf (x0 : (List Maker)) : Prop := wfA [(.val (.sl 0 (.pair (.int .i64) (.pair (.int .i64) (.pair (.int .i64) (.pair (.int .i64) (.pair (.sl 0 (.pair (.int .i64) (.pair (.int .i64) .unit))) .unit)))))) .f)] (x0, ())
noncomputable def raw (x0 : (List Maker)) : Option (Unit × ((List Maker) × Unit)) :=
 if (decide ((0 : Int) ≤ ((List.length x0 : Nat) : Int))) = true then
  if (decide (((List.length x0 : Nat) : Int) ≤ ((List.length x0 : Nat) : Int))) = true then
   if (decide (((List.length x0 : Nat) : Int) ≤ (4294967296 : Int))) = true then
    if (laws_toMakerS.pre3 (x0, ((0 : Int), ((List.replicate (Int.toNat ((List.length x0 : Nat) : Int)) ((0 : Int), ((0 : Int), ((0 : Int), ((0 : Int), (([] : List Mark), ())))))), ())))) = true then
     letB (laws_toMakerS.fn3 (x0, ((0 : Int), ((List.replicate (Int.toNat ((List.length x0 : Nat) : Int)) ((0 : Int), ((0 : Int), ((0 : Int), ((0 : Int), (([] : List Mark), ())))))), ())))) fun v1 =>
     some ((), v1)
    else
     none
   else
    none
  else
   none
 else
  none
theorem ok3 (x1 : List Maker) (x2 : Int) (x3 : List Maker) (hp : pre3 (x1, (x2, (x3, ()))) = true) : Rounds pre3 mu3 fn3 (x1, (x2, (x3, ()))) (raw3 x1 x2 x3) := by
  unfold raw3
  by_cases hlt : x2 < (x1.length : Int)
  · obtain ⟨h1, h2, h3⟩ := tc_facts hp hlt ((0 : Int), ((0 : Int), ((0 : Int), ((0 : Int), (([] : List Mark), ())))))
    simp only [letB, hlt, h1, h2, h3, decide_true, if_true]
    exact tc_step hp hlt ((0 : Int), ((0 : Int), ((0 : Int), ((0 : Int), (([] : List Mark), ()))))) rfl
  · rw [if_neg (by simp [hlt])]; exact tc_end hp hlt
theorem eq (x0 : List Maker) (hw : wf x0) (hp : pre x0 = true) : raw x0 = some ((), (laws_toMakerS x0, ())) := by
  have h1 : x0.length ≤ maxLen := hw.1.1
  simp only [pre, Bool.and_eq_true, small_iff] at hp
  unfold raw
  rw [if_pos (by simp), if_pos (by simp), if_pos (by simp; omega), if_pos (show pre3 _ = true from tc_start h1 hp.2 _)]
  rfl
end laws_toMakerS
theorem toMakerS_pre {xs : List Maker} (h : wL w_Maker xs ≤ 16777216) : laws_toMakerS.pre xs = true := by
  have hl := wL_nn w_Maker_nn xs
  simp only [laws_toMakerS.pre, Bool.and_eq_true, small_iff]
  refine ⟨by omega, List.all_eq_true.2 fun x hx => toMaker_pre ?_⟩
  have := wL_get w_Maker_nn hx
  omega
def laws_szMakerS (xs : List Maker) (l : Int) : Int := szN (wL w_Maker xs) l
namespace laws_szMakerS
def pre (_ : List Maker) (l : Int) : Bool := decide (0 ≤ l) && decide (l ≤ maxLen)
def pre5 := swPre (α := Maker)
def fn5 := swFn w_Maker
def mu5 := szMu (α := Maker)
noncomputable def raw5 (x1 : (List Maker)) (x2 : Int) (x3 : Int) : Option (((List Maker) × Mark) ⊕ ((Int × Unit) ⊕ (Int × Unit))) :=
 if (decide (x3 < ((List.length x1 : Nat) : Int))) = true then
  if (decide ((0 : Int) ≤ x3)) = true then
   if (decide (x3 < ((List.length x1 : Nat) : Int))) = true then
    if (laws_szMaker.pre (List.getD x1 (Int.toNat x3) ((0 : Int), ((0 : Int), ((0 : Int), ((0 : Int), (([] : List Mark), ())))))) x2) = true then
     letB (laws_szMaker (List.getD x1 (Int.toNat x3) ((0 : Int), ((0 : Int), ((0 : Int), ((0 : Int), (([] : List Mark), ())))))) x2) fun v1 =>
     if (decide (v1 < (0 : Int))) = true then
      some (.inr (.inl ((-1 : Int), ())))
     else
      some (.inl (x1, (v1, ((IntKind.wrap .i64 (x3 + (1 : Int))), ()))))
    else
     none
   else
    none
  else
   none
 else
  some (.inr (.inr (x2, ())))
abbrev wf (x0 : (List Maker)) (x1 : Int) : Prop := wfA [(.val (.sl 0 (.pair (.int .i64) (.pair (.int .i64) (.pair (.int .i64) (.pair (.int .i64) (.pair (.sl 0 (.pair (.int .i64) (.pair (.int .i64) .unit))) .unit)))))) .f), (.val (.int .i64) .f)] (x0, (x1, ()))
noncomputable def raw (x0 : (List Maker)) (x1 : Int) : Option (Unit × (Int × Unit)) :=
 if (decide ((IntKind.wrap .i64 (x1 - ((List.length x0 : Nat) : Int))) < (0 : Int))) = true then
  some ((), ((-1 : Int), ()))
 else
  if (laws_szMakerS.pre5 (x0, ((IntKind.wrap .i64 (x1 - ((List.length x0 : Nat) : Int))), ((0 : Int), ())))) = true then
   letB (laws_szMakerS.fn5 (x0, ((IntKind.wrap .i64 (x1 - ((List.length x0 : Nat) : Int))), ((0 : Int), ())))) fun v1 =>
   match v1 with
   | .inl y =>
    some ((), y)
   | .inr y =>
    some ((), y)
  else
   none
theorem ok5 (x1 : List Maker) (x2 x3 : Int) (hp : pre5 (x1, (x2, (x3, ()))) = true) : Rounds pre5 mu5 fn5 (x1, (x2, (x3, ()))) (raw5 x1 x2 x3) := by
  unfold raw5
  by_cases hlt : x3 < (x1.length : Int)
  · obtain ⟨h0, h1, h2⟩ := sw_facts hp
    have q : laws_szMaker.pre (x1.getD x3.toNat ((0 : Int), ((0 : Int), ((0 : Int), ((0 : Int), (([] : List Mark), ())))))) x2 = true := by simp only [laws_szMaker.pre, Bool.and_eq_true, decide_eq_true_eq]; exact ⟨h1, h2⟩
    simp only [letB, hlt, h0, q, decide_true, if_true]
    by_cases c : x2 - w_Maker (x1.getD x3.toNat ((0 : Int), ((0 : Int), ((0 : Int), ((0 : Int), (([] : List Mark), ())))))) < 0
    · rw [show laws_szMaker (x1.getD x3.toNat ((0 : Int), ((0 : Int), ((0 : Int), ((0 : Int), (([] : List Mark), ())))))) x2 = -1 from szN_neg c, if_pos (by decide)]; exact sw_bad w_Maker_nn hp hlt ((0 : Int), ((0 : Int), ((0 : Int), ((0 : Int), (([] : List Mark), ()))))) c
    · rw [show laws_szMaker (x1.getD x3.toNat ((0 : Int), ((0 : Int), ((0 : Int), ((0 : Int), (([] : List Mark), ())))))) x2 = x2 - w_Maker (x1.getD x3.toNat ((0 : Int), ((0 : Int), ((0 : Int), ((0 : Int), (([] : List Mark), ())))))) from szN_pos c, if_neg (by rw [decide_eq_true_eq]; exact c)]; exact sw_good w_Maker_nn hp hlt ((0 : Int), ((0 : Int), ((0 : Int), ((0 : Int), (([] : List Mark), ()))))) c
  · rw [if_neg (by simp [hlt])]; exact sw_end hp hlt
theorem eq (x0 : List Maker) (x1 : Int) (hw : wf x0 x1) (hp : pre x0 x1 = true) : raw x0 x1 = some ((), (laws_szMakerS x0 x1, ())) := by
  have h1 : x0.length ≤ maxLen := hw.1.1
  simp only [pre, Bool.and_eq_true, decide_eq_true_eq] at hp
  have hM := maxLen_eq
  have hnn := sumW_nn w_Maker_nn x0
  unfold raw
  rw [w64 (n := x1 - (x0.length : Int)) (by omega) (by omega)]
  by_cases c : x1 - (x0.length : Int) < 0
  · rw [if_pos (decide_eq_true c), show laws_szMakerS x0 x1 = -1 from szN_neg (by simp only [wL]; omega)]
  · rw [if_neg (by rw [decide_eq_true_eq]; exact c), if_pos (show pre5 _ = true from sw_start h1 (by omega) (by omega))]
    exact swFn_start x0 x1
end laws_szMakerS
def w_Answer (x : Answer) : Int := (x.2.2.1.length : Int) + (x.2.2.2.1.length : Int)
theorem w_Answer_nn (x : Answer) : 0 ≤ w_Answer x := by
  simp only [w_Answer]; omega
noncomputable def laws_eqAnswer (a b : Answer) : Bool := same a b
namespace laws_eqAnswer
abbrev wf (x0 : Answer) (x1 : Answer) : Prop := wfA [(.val (.pair (.int .i64) (.pair (.int .i64) (.pair .str (.pair .str .unit)))) .f), (.val (.pair (.int .i64) (.pair (.int .i64) (.pair .str (.pair .str .unit)))) .f)] (x0, (x1, ()))
noncomputable def raw (x0 : Answer) (x1 : Answer) : Option (Unit × (Bool × Unit)) :=
 if (!(decide (x0.1 = x1.1))) = true then
  some ((), (false, ()))
 else
  if (!(decide (x0.2.1 = x1.2.1))) = true then
   some ((), (false, ()))
  else
   if (!(x0.2.2.1 == x1.2.2.1)) = true then
    some ((), (false, ()))
   else
    if (!(x0.2.2.2.1 == x1.2.2.2.1)) = true then
     some ((), (false, ()))
    else
     some ((), (true, ()))
theorem eq (x0 x1 : Answer) (_ : wf x0 x1) : raw x0 x1 = some ((), (laws_eqAnswer x0 x1, ())) := by
  unfold raw laws_eqAnswer
  try simp only [letB]
  by_cases c0 : x0.1 = x1.1
  case neg => rw [if_pos (by simp [c0]), same_false.2 (fun h => c0 (congrArg (fun z : Answer => z.1) h))]
  rw [if_neg (by simp [c0])]
  by_cases c1 : x0.2.1 = x1.2.1
  case neg => rw [if_pos (by simp [c1]), same_false.2 (fun h => c1 (congrArg (fun z : Answer => z.2.1) h))]
  rw [if_neg (by simp [c1])]
  by_cases c2 : x0.2.2.1 = x1.2.2.1
  case neg => rw [if_pos (by simp [c2]), same_false.2 (fun h => c2 (congrArg (fun z : Answer => z.2.2.1) h))]
  rw [if_neg (by simp [c2])]
  by_cases c3 : x0.2.2.2.1 = x1.2.2.2.1
  case neg => rw [if_pos (by simp [c3]), same_false.2 (fun h => c3 (congrArg (fun z : Answer => z.2.2.2.1) h))]
  rw [if_neg (by simp [c3])]
  rw [same_true.2 (Prod.ext c0 (Prod.ext c1 (Prod.ext c2 (Prod.ext c3 rfl))))]
end laws_eqAnswer
def laws_toAnswer (x : Answer) : Answer := x
namespace laws_toAnswer
abbrev wf (x0 : Answer) : Prop := wfA [(.val (.pair (.int .i64) (.pair (.int .i64) (.pair .str (.pair .str .unit)))) .f)] (x0, ())
noncomputable def raw (x0 : Answer) : Option (Unit × (Answer × Unit)) :=
 some ((), (x0, ()))
theorem eq (x0 : Answer) (_ : wf x0) : raw x0 = some ((), (laws_toAnswer x0, ())) := rfl
end laws_toAnswer
def laws_szAnswer (x : Answer) (l : Int) : Int := szN (w_Answer x) l
namespace laws_szAnswer
def pre (_ : Answer) (l : Int) : Bool := decide (0 ≤ l) && decide (l ≤ maxLen)
abbrev wf (x0 : Answer) (x1 : Int) : Prop := wfA [(.val (.pair (.int .i64) (.pair (.int .i64) (.pair .str (.pair .str .unit)))) .f), (.val (.int .i64) .f)] (x0, (x1, ()))
noncomputable def raw (x0 : Answer) (x1 : Int) : Option (Unit × (Int × Unit)) :=
 if (decide ((IntKind.wrap .i64 (x1 - ((List.length x0.2.2.1 : Nat) : Int))) < (0 : Int))) = true then
  some ((), ((-1 : Int), ()))
 else
  if (decide ((IntKind.wrap .i64 ((IntKind.wrap .i64 (x1 - ((List.length x0.2.2.1 : Nat) : Int))) - ((List.length x0.2.2.2.1 : Nat) : Int))) < (0 : Int))) = true then
   some ((), ((-1 : Int), ()))
  else
   some ((), ((IntKind.wrap .i64 ((IntKind.wrap .i64 (x1 - ((List.length x0.2.2.1 : Nat) : Int))) - ((List.length x0.2.2.2.1 : Nat) : Int))), ()))
theorem eq (x0 : Answer) (x1 : Int) (hw : wf x0 x1) (hp : pre x0 x1 = true) : raw x0 x1 = some ((), (laws_szAnswer x0 x1, ())) := by
  simp only [pre, Bool.and_eq_true, decide_eq_true_eq] at hp
  have hM := maxLen_eq
  have t2 : x0.2.2.1.length ≤ maxLen := hw.1.2.2.1
  have t3 : x0.2.2.2.1.length ≤ maxLen := hw.1.2.2.2.1
  unfold raw
  try simp only [letB]
  rw [w64 (n := x1 - (x0.2.2.1.length : Int)) (by omega) (by omega)]
  by_cases c2 : x1 - (x0.2.2.1.length : Int) < 0
  · rw [if_pos (decide_eq_true c2), show laws_szAnswer x0 x1 = -1 from szN_neg (by simp only [w_Answer]; omega)]
  rw [if_neg (by rw [decide_eq_true_eq]; exact c2)]
  rw [w64 (n := x1 - (x0.2.2.1.length : Int) - (x0.2.2.2.1.length : Int)) (by omega) (by omega)]
  by_cases c3 : x1 - (x0.2.2.1.length : Int) - (x0.2.2.2.1.length : Int) < 0
  · rw [if_pos (decide_eq_true c3), show laws_szAnswer x0 x1 = -1 from szN_neg (by simp only [w_Answer]; omega)]
  rw [if_neg (by rw [decide_eq_true_eq]; exact c3)]
  rw [show laws_szAnswer x0 x1 = x1 - (x0.2.2.1.length : Int) - (x0.2.2.2.1.length : Int) from by rw [laws_szAnswer, szN_pos (by simp only [w_Answer]; omega)]; simp only [w_Answer]; omega]
end laws_szAnswer
noncomputable def laws_eqAnswerS (a b : List Answer) : Bool := same a b
namespace laws_eqAnswerS
def pre4 := eqPre (α := Answer)
noncomputable def fn4 := eqFn (α := Answer)
def mu4 := eqMu (α := Answer)
noncomputable def raw4 (x1 : (List Answer)) (x2 : (List Answer)) (x3 : Int) : Option (((List Answer) × ((List Answer) × (Int × Unit))) ⊕ ((Bool × Unit) ⊕ Unit)) :=
 if (decide (x3 < ((List.length x1 : Nat) : Int))) = true then
  if (decide ((0 : Int) ≤ x3)) = true then
   if (decide (x3 < ((List.length x1 : Nat) : Int))) = true then
    if (decide ((0 : Int) ≤ x3)) = true then
     if (decide (x3 < ((List.length x2 : Nat) : Int))) = true then
      letB (laws_eqAnswer (List.getD x1 (Int.toNat x3) ((0 : Int), ((0 : Int), (([] : List UInt8), (([] : List UInt8), ()))))) (List.getD x2 (Int.toNat x3) ((0 : Int), ((0 : Int), (([] : List UInt8), (([] : List UInt8), ())))))) fun v1 =>
      if (!v1) = true then
       some (.inr (.inl (false, ())))
      else
       some (.inl (x1, (x2, ((IntKind.wrap .i64 (x3 + (1 : Int))), ()))))
     else
      none
    else
     none
   else
    none
  else
   none
 else
  some (.inr (.inr ()))
abbrev wf (x0 : (List Answer)) (x1 : (List Answer)) : Prop := wfA [(.val (.sl 0 (.pair (.int .i64) (.pair (.int .i64) (.pair .str (.pair .str .unit))))) .f), (.val (.sl 0 (.pair (.int .i64) (.pair (.int .i64) (.pair .str (.pair .str .unit))))) .f)] (x0, (x1, ()))
noncomputable def raw (x0 : (List Answer)) (x1 : (List Answer)) : Option (Unit × (Bool × Unit)) :=
 if (!(decide (((List.length x0 : Nat) : Int) = ((List.length x1 : Nat) : Int)))) = true then
  some ((), (false, ()))
 else
  if (laws_eqAnswerS.pre4 (x0, (x1, ((0 : Int), ())))) = true then
   letB (laws_eqAnswerS.fn4 (x0, (x1, ((0 : Int), ())))) fun v1 =>
   match v1 with
   | .inl y =>
    some ((), y)
   | .inr y =>
    some ((), (true, ()))
  else
   none
theorem ok4 (x1 x2 : List Answer) (x3 : Int) (hp : pre4 (x1, (x2, (x3, ()))) = true) : Rounds pre4 mu4 fn4 (x1, (x2, (x3, ()))) (raw4 x1 x2 x3) := by
  unfold raw4
  by_cases hlt : x3 < (x1.length : Int)
  · obtain ⟨h1, h2, h3, h4⟩ := eq_next hp hlt ((0 : Int), ((0 : Int), (([] : List UInt8), (([] : List UInt8), ()))))
    simp only [letB, hlt, h1, h2, decide_true, if_true]
    by_cases h : x1.getD x3.toNat ((0 : Int), ((0 : Int), (([] : List UInt8), (([] : List UInt8), ())))) = x2.getD x3.toNat ((0 : Int), ((0 : Int), (([] : List UInt8), (([] : List UInt8), ()))))
    · rw [if_neg (by rw [laws_eqAnswer, same_true.2 h]; simp)]; exact h3 h
    · rw [if_pos (by rw [laws_eqAnswer, same_false.2 h]; rfl)]; exact h4 h
  · simp only [hlt, decide_false, Bool.false_eq_true, if_false]
    exact eq_end hp hlt
theorem eq (x0 x1 : List Answer) (hw : wf x0 x1) : raw x0 x1 = some ((), (laws_eqAnswerS x0 x1, ())) := by
  have h1 : x0.length ≤ maxLen := hw.1.1
  unfold raw laws_eqAnswerS
  by_cases hl : (x0.length : Int) = (x1.length : Int)
  · rw [if_neg (by simp [hl]), if_pos (show pre4 _ = true from eq_start h1 hl)]
    unfold fn4
    by_cases he : x0 = x1
    · rw [eqFn_eq he, same_true.2 he]; rfl
    · rw [eqFn_ne he, same_false.2 he]; rfl
  · have : ¬ x0 = x1 := fun h => hl (by rw [h])
    rw [if_pos (by simp [hl]), same_false.2 this]
end laws_eqAnswerS
def laws_toAnswerS (xs : List Answer) : List Answer := xs
namespace laws_toAnswerS
def pre (xs : List Answer) : Bool := small xs && xs.all (fun _ => true)
noncomputable def pre3 := tcPreB (α := Answer) (fun _ => true)
def fn3 := toFn (α := Answer)
def mu3 := toMu (α := Answer)
noncomputable def raw3 (x1 : (List Answer)) (x2 : Int) (x3 : (List Answer)) : Option (((List Answer) × (Int × ((List Answer) × Unit))) ⊕ ((List Answer) × Unit)) :=
 if (decide (x2 < ((List.length x1 : Nat) : Int))) = true then
  if (decide ((0 : Int) ≤ x2)) = true then
   if (decide (x2 < ((List.length x1 : Nat) : Int))) = true then
    if (decide ((0 : Int) ≤ x2)) = true then
     if (decide (x2 < ((List.length x3 : Nat) : Int))) = true then
      some (.inl (x1, ((IntKind.wrap .i64 (x2 + (1 : Int))), ((List.modify x3 (Int.toNat x2) (fun z => (laws_toAnswer (List.getD x1 (Int.toNat x2) ((0 : Int), ((0 : Int), (([] : List UInt8), (([] : List UInt8), ())))))))), ()))))
     else
      none
    else
     none
   else
    none
  else
   none
 else
  some (.inr (x3, ()))
abbrev wf (x0 : (List Answer)) : Prop := wfA [(.val (.sl 0 (.pair (.int .i64) (.pair (.int .i64) (.pair .str (.pair .str .unit))))) .f)] (x0, ())
noncomputable def raw (x0 : (List Answer)) : Option (Unit × ((List Answer) × Unit)) :=
 if (decide ((0 : Int) ≤ ((List.length x0 : Nat) : Int))) = true then
  if (decide (((List.length x0 : Nat) : Int) ≤ ((List.length x0 : Nat) : Int))) = true then
   if (decide (((List.length x0 : Nat) : Int) ≤ (4294967296 : Int))) = true then
    if (laws_toAnswerS.pre3 (x0, ((0 : Int), ((List.replicate (Int.toNat ((List.length x0 : Nat) : Int)) ((0 : Int), ((0 : Int), (([] : List UInt8), (([] : List UInt8), ()))))), ())))) = true then
     letB (laws_toAnswerS.fn3 (x0, ((0 : Int), ((List.replicate (Int.toNat ((List.length x0 : Nat) : Int)) ((0 : Int), ((0 : Int), (([] : List UInt8), (([] : List UInt8), ()))))), ())))) fun v1 =>
     some ((), v1)
    else
     none
   else
    none
  else
   none
 else
  none
theorem ok3 (x1 : List Answer) (x2 : Int) (x3 : List Answer) (hp : pre3 (x1, (x2, (x3, ()))) = true) : Rounds pre3 mu3 fn3 (x1, (x2, (x3, ()))) (raw3 x1 x2 x3) := by
  unfold raw3
  by_cases hlt : x2 < (x1.length : Int)
  · obtain ⟨h1, h2, h3⟩ := tc_facts hp hlt ((0 : Int), ((0 : Int), (([] : List UInt8), (([] : List UInt8), ()))))
    simp only [letB, hlt, h1, h2, h3, decide_true, if_true]
    exact tc_step hp hlt ((0 : Int), ((0 : Int), (([] : List UInt8), (([] : List UInt8), ())))) rfl
  · rw [if_neg (by simp [hlt])]; exact tc_end hp hlt
theorem eq (x0 : List Answer) (hw : wf x0) (hp : pre x0 = true) : raw x0 = some ((), (laws_toAnswerS x0, ())) := by
  have h1 : x0.length ≤ maxLen := hw.1.1
  simp only [pre, Bool.and_eq_true, small_iff] at hp
  unfold raw
  rw [if_pos (by simp), if_pos (by simp), if_pos (by simp; omega), if_pos (show pre3 _ = true from tc_start h1 hp.2 _)]
  rfl
end laws_toAnswerS
theorem toAnswerS_pre {xs : List Answer} (h : wL w_Answer xs ≤ 16777216) : laws_toAnswerS.pre xs = true := by
  have hl := wL_nn w_Answer_nn xs
  simp only [laws_toAnswerS.pre, Bool.and_eq_true, small_iff]
  exact ⟨by omega, by simp⟩
def laws_szAnswerS (xs : List Answer) (l : Int) : Int := szN (wL w_Answer xs) l
namespace laws_szAnswerS
def pre (_ : List Answer) (l : Int) : Bool := decide (0 ≤ l) && decide (l ≤ maxLen)
def pre5 := swPre (α := Answer)
def fn5 := swFn w_Answer
def mu5 := szMu (α := Answer)
noncomputable def raw5 (x1 : (List Answer)) (x2 : Int) (x3 : Int) : Option (((List Answer) × Mark) ⊕ ((Int × Unit) ⊕ (Int × Unit))) :=
 if (decide (x3 < ((List.length x1 : Nat) : Int))) = true then
  if (decide ((0 : Int) ≤ x3)) = true then
   if (decide (x3 < ((List.length x1 : Nat) : Int))) = true then
    if (laws_szAnswer.pre (List.getD x1 (Int.toNat x3) ((0 : Int), ((0 : Int), (([] : List UInt8), (([] : List UInt8), ()))))) x2) = true then
     letB (laws_szAnswer (List.getD x1 (Int.toNat x3) ((0 : Int), ((0 : Int), (([] : List UInt8), (([] : List UInt8), ()))))) x2) fun v1 =>
     if (decide (v1 < (0 : Int))) = true then
      some (.inr (.inl ((-1 : Int), ())))
     else
      some (.inl (x1, (v1, ((IntKind.wrap .i64 (x3 + (1 : Int))), ()))))
    else
     none
   else
    none
  else
   none
 else
  some (.inr (.inr (x2, ())))
abbrev wf (x0 : (List Answer)) (x1 : Int) : Prop := wfA [(.val (.sl 0 (.pair (.int .i64) (.pair (.int .i64) (.pair .str (.pair .str .unit))))) .f), (.val (.int .i64) .f)] (x0, (x1, ()))
noncomputable def raw (x0 : (List Answer)) (x1 : Int) : Option (Unit × (Int × Unit)) :=
 if (decide ((IntKind.wrap .i64 (x1 - ((List.length x0 : Nat) : Int))) < (0 : Int))) = true then
  some ((), ((-1 : Int), ()))
 else
  if (laws_szAnswerS.pre5 (x0, ((IntKind.wrap .i64 (x1 - ((List.length x0 : Nat) : Int))), ((0 : Int), ())))) = true then
   letB (laws_szAnswerS.fn5 (x0, ((IntKind.wrap .i64 (x1 - ((List.length x0 : Nat) : Int))), ((0 : Int), ())))) fun v1 =>
   match v1 with
   | .inl y =>
    some ((), y)
   | .inr y =>
    some ((), y)
  else
   none
theorem ok5 (x1 : List Answer) (x2 x3 : Int) (hp : pre5 (x1, (x2, (x3, ()))) = true) : Rounds pre5 mu5 fn5 (x1, (x2, (x3, ()))) (raw5 x1 x2 x3) := by
  unfold raw5
  by_cases hlt : x3 < (x1.length : Int)
  · obtain ⟨h0, h1, h2⟩ := sw_facts hp
    have q : laws_szAnswer.pre (x1.getD x3.toNat ((0 : Int), ((0 : Int), (([] : List UInt8), (([] : List UInt8), ()))))) x2 = true := by simp only [laws_szAnswer.pre, Bool.and_eq_true, decide_eq_true_eq]; exact ⟨h1, h2⟩
    simp only [letB, hlt, h0, q, decide_true, if_true]
    by_cases c : x2 - w_Answer (x1.getD x3.toNat ((0 : Int), ((0 : Int), (([] : List UInt8), (([] : List UInt8), ()))))) < 0
    · rw [show laws_szAnswer (x1.getD x3.toNat ((0 : Int), ((0 : Int), (([] : List UInt8), (([] : List UInt8), ()))))) x2 = -1 from szN_neg c, if_pos (by decide)]; exact sw_bad w_Answer_nn hp hlt ((0 : Int), ((0 : Int), (([] : List UInt8), (([] : List UInt8), ())))) c
    · rw [show laws_szAnswer (x1.getD x3.toNat ((0 : Int), ((0 : Int), (([] : List UInt8), (([] : List UInt8), ()))))) x2 = x2 - w_Answer (x1.getD x3.toNat ((0 : Int), ((0 : Int), (([] : List UInt8), (([] : List UInt8), ()))))) from szN_pos c, if_neg (by rw [decide_eq_true_eq]; exact c)]; exact sw_good w_Answer_nn hp hlt ((0 : Int), ((0 : Int), (([] : List UInt8), (([] : List UInt8), ())))) c
  · rw [if_neg (by simp [hlt])]; exact sw_end hp hlt
theorem eq (x0 : List Answer) (x1 : Int) (hw : wf x0 x1) (hp : pre x0 x1 = true) : raw x0 x1 = some ((), (laws_szAnswerS x0 x1, ())) := by
  have h1 : x0.length ≤ maxLen := hw.1.1
  simp only [pre, Bool.and_eq_true, decide_eq_true_eq] at hp
  have hM := maxLen_eq
  have hnn := sumW_nn w_Answer_nn x0
  unfold raw
  rw [w64 (n := x1 - (x0.length : Int)) (by omega) (by omega)]
  by_cases c : x1 - (x0.length : Int) < 0
  · rw [if_pos (decide_eq_true c), show laws_szAnswerS x0 x1 = -1 from szN_neg (by simp only [wL]; omega)]
  · rw [if_neg (by rw [decide_eq_true_eq]; exact c), if_pos (show pre5 _ = true from sw_start h1 (by omega) (by omega))]
    exact swFn_start x0 x1
end laws_szAnswerS
def w_Group (x : Group) : Int := wL w_Int x.2.1 + wL w_Int x.2.2.1 + wL w_Int x.2.2.2.1
theorem w_Group_nn (x : Group) : 0 ≤ w_Group x := by
  have n1 := wL_nn w_Int_nn x.2.1
  have n2 := wL_nn w_Int_nn x.2.2.1
  have n3 := wL_nn w_Int_nn x.2.2.2.1
  simp only [w_Group]; omega
noncomputable def laws_eqGroup (a b : Group) : Bool := same a b
namespace laws_eqGroup
abbrev wf (x0 : Group) (x1 : Group) : Prop := wfA [(.val (.pair (.int .i64) (.pair (.sl 0 (.int .i64)) (.pair (.sl 0 (.int .i64)) (.pair (.sl 0 (.int .i64)) .unit)))) .f), (.val (.pair (.int .i64) (.pair (.sl 0 (.int .i64)) (.pair (.sl 0 (.int .i64)) (.pair (.sl 0 (.int .i64)) .unit)))) .f)] (x0, (x1, ()))
noncomputable def raw (x0 : Group) (x1 : Group) : Option (Unit × (Bool × Unit)) :=
 if (!(decide (x0.1 = x1.1))) = true then
  some ((), (false, ()))
 else
  letB (laws_eqIntS x0.2.1 x1.2.1) fun v1 =>
  if (!v1) = true then
   some ((), (false, ()))
  else
   letB (laws_eqIntS x0.2.2.1 x1.2.2.1) fun v2 =>
   if (!v2) = true then
    some ((), (false, ()))
   else
    letB (laws_eqIntS x0.2.2.2.1 x1.2.2.2.1) fun v3 =>
    if (!v3) = true then
     some ((), (false, ()))
    else
     some ((), (true, ()))
theorem eq (x0 x1 : Group) (_ : wf x0 x1) : raw x0 x1 = some ((), (laws_eqGroup x0 x1, ())) := by
  unfold raw laws_eqGroup
  try simp only [letB]
  by_cases c0 : x0.1 = x1.1
  case neg => rw [if_pos (by simp [c0]), same_false.2 (fun h => c0 (congrArg (fun z : Group => z.1) h))]
  rw [if_neg (by simp [c0])]
  by_cases c1 : x0.2.1 = x1.2.1
  case neg => rw [if_pos (by rw [laws_eqIntS, same_false.2 c1]; rfl), same_false.2 (fun h => c1 (congrArg (fun z : Group => z.2.1) h))]
  rw [if_neg (by rw [laws_eqIntS, same_true.2 c1]; simp)]
  by_cases c2 : x0.2.2.1 = x1.2.2.1
  case neg => rw [if_pos (by rw [laws_eqIntS, same_false.2 c2]; rfl), same_false.2 (fun h => c2 (congrArg (fun z : Group => z.2.2.1) h))]
  rw [if_neg (by rw [laws_eqIntS, same_true.2 c2]; simp)]
  by_cases c3 : x0.2.2.2.1 = x1.2.2.2.1
  case neg => rw [if_pos (by rw [laws_eqIntS, same_false.2 c3]; rfl), same_false.2 (fun h => c3 (congrArg (fun z : Group => z.2.2.2.1) h))]
  rw [if_neg (by rw [laws_eqIntS, same_true.2 c3]; simp)]
  rw [same_true.2 (Prod.ext c0 (Prod.ext c1 (Prod.ext c2 (Prod.ext c3 rfl))))]
end laws_eqGroup
def laws_toGroup (x : Group) : Group := x
namespace laws_toGroup
def pre (x : Group) : Bool := laws_toIntS.pre x.2.1 && laws_toIntS.pre x.2.2.1 && laws_toIntS.pre x.2.2.2.1
abbrev wf (x0 : Group) : Prop := wfA [(.val (.pair (.int .i64) (.pair (.sl 0 (.int .i64)) (.pair (.sl 0 (.int .i64)) (.pair (.sl 0 (.int .i64)) .unit)))) .f)] (x0, ())
noncomputable def raw (x0 : Group) : Option (Unit × (Group × Unit)) :=
 if (laws_toIntS.pre x0.2.1) = true then
  if (laws_toIntS.pre x0.2.2.1) = true then
   if (laws_toIntS.pre x0.2.2.2.1) = true then
    letB (laws_toIntS x0.2.1) fun v1 =>
    letB (laws_toIntS x0.2.2.1) fun v2 =>
    letB (laws_toIntS x0.2.2.2.1) fun v3 =>
    some ((), ((x0.1, (v1, (v2, (v3, ())))), ()))
   else
    none
  else
   none
 else
  none
theorem eq (x0 : Group) (_ : wf x0) (hp : pre x0 = true) : raw x0 = some ((), (laws_toGroup x0, ())) := by
  simp only [pre, Bool.and_eq_true] at hp
  unfold raw
  try simp only [letB]
  rw [if_pos hp.1.1, if_pos hp.1.2, if_pos hp.2]
  rfl
end laws_toGroup
theorem toGroup_pre {x : Group} (h : w_Group x ≤ 16777216) : laws_toGroup.pre x = true := by
  simp only [w_Group] at h
  have n1 := wL_nn w_Int_nn x.2.1
  have n2 := wL_nn w_Int_nn x.2.2.1
  have n3 := wL_nn w_Int_nn x.2.2.2.1
  simp only [laws_toGroup.pre, Bool.and_eq_true]
  exact ⟨⟨toIntS_pre (by omega), toIntS_pre (by omega)⟩, toIntS_pre (by omega)⟩
def laws_szGroup (x : Group) (l : Int) : Int := szN (w_Group x) l
namespace laws_szGroup
def pre (_ : Group) (l : Int) : Bool := decide (0 ≤ l) && decide (l ≤ maxLen)
abbrev wf (x0 : Group) (x1 : Int) : Prop := wfA [(.val (.pair (.int .i64) (.pair (.sl 0 (.int .i64)) (.pair (.sl 0 (.int .i64)) (.pair (.sl 0 (.int .i64)) .unit)))) .f), (.val (.int .i64) .f)] (x0, (x1, ()))
noncomputable def raw (x0 : Group) (x1 : Int) : Option (Unit × (Int × Unit)) :=
 if (laws_szIntS.pre x0.2.1 x1) = true then
  letB (laws_szIntS x0.2.1 x1) fun v1 =>
  if (decide (v1 < (0 : Int))) = true then
   some ((), ((-1 : Int), ()))
  else
   if (laws_szIntS.pre x0.2.2.1 v1) = true then
    letB (laws_szIntS x0.2.2.1 v1) fun v2 =>
    if (decide (v2 < (0 : Int))) = true then
     some ((), ((-1 : Int), ()))
    else
     if (laws_szIntS.pre x0.2.2.2.1 v2) = true then
      letB (laws_szIntS x0.2.2.2.1 v2) fun v3 =>
      if (decide (v3 < (0 : Int))) = true then
       some ((), ((-1 : Int), ()))
      else
       some ((), (v3, ()))
     else
      none
   else
    none
 else
  none
theorem eq (x0 : Group) (x1 : Int) (hw : wf x0 x1) (hp : pre x0 x1 = true) : raw x0 x1 = some ((), (laws_szGroup x0 x1, ())) := by
  simp only [pre, Bool.and_eq_true, decide_eq_true_eq] at hp
  have hM := maxLen_eq
  have t1 := wL_nn w_Int_nn x0.2.1
  have t2 := wL_nn w_Int_nn x0.2.2.1
  have t3 := wL_nn w_Int_nn x0.2.2.2.1
  unfold raw
  try simp only [letB]
  rw [if_pos (show laws_szIntS.pre _ _ = true by simp only [laws_szIntS.pre, Bool.and_eq_true, decide_eq_true_eq]; omega)]
  by_cases c1 : x1 - wL w_Int x0.2.1 < 0
  · rw [show laws_szIntS x0.2.1 (x1) = -1 from szN_neg c1, if_pos (by decide), show laws_szGroup x0 x1 = -1 from szN_neg (by simp only [w_Group]; omega)]
  rw [show laws_szIntS x0.2.1 (x1) = x1 - wL w_Int x0.2.1 from szN_pos c1, if_neg (by rw [decide_eq_true_eq]; exact c1)]
  rw [if_pos (show laws_szIntS.pre _ _ = true by simp only [laws_szIntS.pre, Bool.and_eq_true, decide_eq_true_eq]; omega)]
  by_cases c2 : x1 - wL w_Int x0.2.1 - wL w_Int x0.2.2.1 < 0
  · rw [show laws_szIntS x0.2.2.1 (x1 - wL w_Int x0.2.1) = -1 from szN_neg c2, if_pos (by decide), show laws_szGroup x0 x1 = -1 from szN_neg (by simp only [w_Group]; omega)]
  rw [show laws_szIntS x0.2.2.1 (x1 - wL w_Int x0.2.1) = x1 - wL w_Int x0.2.1 - wL w_Int x0.2.2.1 from szN_pos c2, if_neg (by rw [decide_eq_true_eq]; exact c2)]
  rw [if_pos (show laws_szIntS.pre _ _ = true by simp only [laws_szIntS.pre, Bool.and_eq_true, decide_eq_true_eq]; omega)]
  by_cases c3 : x1 - wL w_Int x0.2.1 - wL w_Int x0.2.2.1 - wL w_Int x0.2.2.2.1 < 0
  · rw [show laws_szIntS x0.2.2.2.1 (x1 - wL w_Int x0.2.1 - wL w_Int x0.2.2.1) = -1 from szN_neg c3, if_pos (by decide), show laws_szGroup x0 x1 = -1 from szN_neg (by simp only [w_Group]; omega)]
  rw [show laws_szIntS x0.2.2.2.1 (x1 - wL w_Int x0.2.1 - wL w_Int x0.2.2.1) = x1 - wL w_Int x0.2.1 - wL w_Int x0.2.2.1 - wL w_Int x0.2.2.2.1 from szN_pos c3, if_neg (by rw [decide_eq_true_eq]; exact c3)]
  rw [show laws_szGroup x0 x1 = x1 - wL w_Int x0.2.1 - wL w_Int x0.2.2.1 - wL w_Int x0.2.2.2.1 from by rw [laws_szGroup, szN_pos (by simp only [w_Group]; omega)]; simp only [w_Group]; omega]
end laws_szGroup
noncomputable def laws_eqGroupS (a b : List Group) : Bool := same a b
namespace laws_eqGroupS
def pre4 := eqPre (α := Group)
noncomputable def fn4 := eqFn (α := Group)
def mu4 := eqMu (α := Group)
noncomputable def raw4 (x1 : (List Group)) (x2 : (List Group)) (x3 : Int) : Option (((List Group) × ((List Group) × (Int × Unit))) ⊕ ((Bool × Unit) ⊕ Unit)) :=
 if (decide (x3 < ((List.length x1 : Nat) : Int))) = true then
  if (decide ((0 : Int) ≤ x3)) = true then
   if (decide (x3 < ((List.length x1 : Nat) : Int))) = true then
    if (decide ((0 : Int) ≤ x3)) = true then
     if (decide (x3 < ((List.length x2 : Nat) : Int))) = true then
      letB (laws_eqGroup (List.getD x1 (Int.toNat x3) ((0 : Int), (([] : List Int), (([] : List Int), (([] : List Int), ()))))) (List.getD x2 (Int.toNat x3) ((0 : Int), (([] : List Int), (([] : List Int), (([] : List Int), ())))))) fun v1 =>
      if (!v1) = true then
       some (.inr (.inl (false, ())))
      else
       some (.inl (x1, (x2, ((IntKind.wrap .i64 (x3 + (1 : Int))), ()))))
     else
      none
    else
     none
   else
    none
  else
   none
 else
  some (.inr (.inr ()))
abbrev wf (x0 : (List Group)) (x1 : (List Group)) : Prop := wfA [(.val (.sl 0 (.pair (.int .i64) (.pair (.sl 0 (.int .i64)) (.pair (.sl 0 (.int .i64)) (.pair (.sl 0 (.int .i64)) .unit))))) .f), (.val (.sl 0 (.pair (.int .i64) (.pair (.sl 0 (.int .i64)) (.pair (.sl 0 (.int .i64)) (.pair (.sl 0 (.int .i64)) .unit))))) .f)] (x0, (x1, ()))
noncomputable def raw (x0 : (List Group)) (x1 : (List Group)) : Option (Unit × (Bool × Unit)) :=
 if (!(decide (((List.length x0 : Nat) : Int) = ((List.length x1 : Nat) : Int)))) = true then
  some ((), (false, ()))
 else
  if (laws_eqGroupS.pre4 (x0, (x1, ((0 : Int), ())))) = true then
   letB (laws_eqGroupS.fn4 (x0, (x1, ((0 : Int), ())))) fun v1 =>
   match v1 with
   | .inl y =>
    some ((), y)
   | .inr y =>
    some ((), (true, ()))
  else
   none
theorem ok4 (x1 x2 : List Group) (x3 : Int) (hp : pre4 (x1, (x2, (x3, ()))) = true) : Rounds pre4 mu4 fn4 (x1, (x2, (x3, ()))) (raw4 x1 x2 x3) := by
  unfold raw4
  by_cases hlt : x3 < (x1.length : Int)
  · obtain ⟨h1, h2, h3, h4⟩ := eq_next hp hlt ((0 : Int), (([] : List Int), (([] : List Int), (([] : List Int), ()))))
    simp only [letB, hlt, h1, h2, decide_true, if_true]
    by_cases h : x1.getD x3.toNat ((0 : Int), (([] : List Int), (([] : List Int), (([] : List Int), ())))) = x2.getD x3.toNat ((0 : Int), (([] : List Int), (([] : List Int), (([] : List Int), ()))))
    · rw [if_neg (by rw [laws_eqGroup, same_true.2 h]; simp)]; exact h3 h
    · rw [if_pos (by rw [laws_eqGroup, same_false.2 h]; rfl)]; exact h4 h
  · simp only [hlt, decide_false, Bool.false_eq_true, if_false]
    exact eq_end hp hlt
theorem eq (x0 x1 : List Group) (hw : wf x0 x1) : raw x0 x1 = some ((), (laws_eqGroupS x0 x1, ())) := by
  have h1 : x0.length ≤ maxLen := hw.1.1
  unfold raw laws_eqGroupS
  by_cases hl : (x0.length : Int) = (x1.length : Int)
  · rw [if_neg (by simp [hl]), if_pos (show pre4 _ = true from eq_start h1 hl)]
    unfold fn4
    by_cases he : x0 = x1
    · rw [eqFn_eq he, same_true.2 he]; rfl
    · rw [eqFn_ne he, same_false.2 he]; rfl
  · have : ¬ x0 = x1 := fun h => hl (by rw [h])
    rw [if_pos (by simp [hl]), same_false.2 this]
end laws_eqGroupS
def laws_toGroupS (xs : List Group) : List Group := xs
namespace laws_toGroupS
def pre (xs : List Group) : Bool := small xs && xs.all laws_toGroup.pre
noncomputable def pre3 := tcPreB (α := Group) laws_toGroup.pre
def fn3 := toFn (α := Group)
def mu3 := toMu (α := Group)
noncomputable def raw3 (x1 : (List Group)) (x2 : Int) (x3 : (List Group)) : Option (((List Group) × (Int × ((List Group) × Unit))) ⊕ ((List Group) × Unit)) :=
 if (decide (x2 < ((List.length x1 : Nat) : Int))) = true then
  if (decide ((0 : Int) ≤ x2)) = true then
   if (decide (x2 < ((List.length x1 : Nat) : Int))) = true then
    if (laws_toGroup.pre (List.getD x1 (Int.toNat x2) ((0 : Int), (([] : List Int), (([] : List Int), (([] : List Int), ())))))) = true then
     if (decide ((0 : Int) ≤ x2)) = true then
      if (decide (x2 < ((List.length x3 : Nat) : Int))) = true then
       some (.inl (x1, ((IntKind.wrap .i64 (x2 + (1 : Int))), ((List.modify x3 (Int.toNat x2) (fun z => (laws_toGroup (List.getD x1 (Int.toNat x2) ((0 : Int), (([] : List Int), (([] : List Int), (([] : List Int), ())))))))), ()))))
      else
       none
     else
      none
    else
     none
   else
    none
  else
   none
 else
  some (.inr (x3, ()))
abbrev wf (x0 : (List Group)) : Prop := wfA [(.val (.sl 0 (.pair (.int .i64) (.pair (.sl 0 (.int .i64)) (.pair (.sl 0 (.int .i64)) (.pair (.sl 0 (.int .i64)) .unit))))) .f)] (x0, ())
noncomputable def raw (x0 : (List Group)) : Option (Unit × ((List Group) × Unit)) :=
 if (decide ((0 : Int) ≤ ((List.length x0 : Nat) : Int))) = true then
  if (decide (((List.length x0 : Nat) : Int) ≤ ((List.length x0 : Nat) : Int))) = true then
   if (decide (((List.length x0 : Nat) : Int) ≤ (4294967296 : Int))) = true then
    if (laws_toGroupS.pre3 (x0, ((0 : Int), ((List.replicate (Int.toNat ((List.length x0 : Nat) : Int)) ((0 : Int), (([] : List Int), (([] : List Int), (([] : List Int), ()))))), ())))) = true then
     letB (laws_toGroupS.fn3 (x0, ((0 : Int), ((List.replicate (Int.toNat ((List.length x0 : Nat) : Int)) ((0 : Int), (([] : List Int), (([] : List Int), (([] : List Int), ()))))), ())))) fun v1 =>
     some ((), v1)
    else
     none
   else
    none
  else
   none
 else
  none
theorem ok3 (x1 : List Group) (x2 : Int) (x3 : List Group) (hp : pre3 (x1, (x2, (x3, ()))) = true) : Rounds pre3 mu3 fn3 (x1, (x2, (x3, ()))) (raw3 x1 x2 x3) := by
  unfold raw3
  by_cases hlt : x2 < (x1.length : Int)
  · obtain ⟨h1, h2, h3⟩ := tc_facts hp hlt ((0 : Int), (([] : List Int), (([] : List Int), (([] : List Int), ()))))
    simp only [letB, hlt, h1, h2, h3, decide_true, if_true]
    exact tc_step hp hlt ((0 : Int), (([] : List Int), (([] : List Int), (([] : List Int), ())))) rfl
  · rw [if_neg (by simp [hlt])]; exact tc_end hp hlt
theorem eq (x0 : List Group) (hw : wf x0) (hp : pre x0 = true) : raw x0 = some ((), (laws_toGroupS x0, ())) := by
  have h1 : x0.length ≤ maxLen := hw.1.1
  simp only [pre, Bool.and_eq_true, small_iff] at hp
  unfold raw
  rw [if_pos (by simp), if_pos (by simp), if_pos (by simp; omega), if_pos (show pre3 _ = true from tc_start h1 hp.2 _)]
  rfl
end laws_toGroupS
theorem toGroupS_pre {xs : List Group} (h : wL w_Group xs ≤ 16777216) : laws_toGroupS.pre xs = true := by
  have hl := wL_nn w_Group_nn xs
  simp only [laws_toGroupS.pre, Bool.and_eq_true, small_iff]
  refine ⟨by omega, List.all_eq_true.2 fun x hx => toGroup_pre ?_⟩
  have := wL_get w_Group_nn hx
  omega
def laws_szGroupS (xs : List Group) (l : Int) : Int := szN (wL w_Group xs) l
namespace laws_szGroupS
def pre (_ : List Group) (l : Int) : Bool := decide (0 ≤ l) && decide (l ≤ maxLen)
def pre5 := swPre (α := Group)
def fn5 := swFn w_Group
def mu5 := szMu (α := Group)
noncomputable def raw5 (x1 : (List Group)) (x2 : Int) (x3 : Int) : Option (((List Group) × Mark) ⊕ ((Int × Unit) ⊕ (Int × Unit))) :=
 if (decide (x3 < ((List.length x1 : Nat) : Int))) = true then
  if (decide ((0 : Int) ≤ x3)) = true then
   if (decide (x3 < ((List.length x1 : Nat) : Int))) = true then
    if (laws_szGroup.pre (List.getD x1 (Int.toNat x3) ((0 : Int), (([] : List Int), (([] : List Int), (([] : List Int), ()))))) x2) = true then
     letB (laws_szGroup (List.getD x1 (Int.toNat x3) ((0 : Int), (([] : List Int), (([] : List Int), (([] : List Int), ()))))) x2) fun v1 =>
     if (decide (v1 < (0 : Int))) = true then
      some (.inr (.inl ((-1 : Int), ())))
     else
      some (.inl (x1, (v1, ((IntKind.wrap .i64 (x3 + (1 : Int))), ()))))
    else
     none
   else
    none
  else
   none
 else
  some (.inr (.inr (x2, ())))
abbrev wf (x0 : (List Group)) (x1 : Int) : Prop := wfA [(.val (.sl 0 (.pair (.int .i64) (.pair (.sl 0 (.int .i64)) (.pair (.sl 0 (.int .i64)) (.pair (.sl 0 (.int .i64)) .unit))))) .f), (.val (.int .i64) .f)] (x0, (x1, ()))
noncomputable def raw (x0 : (List Group)) (x1 : Int) : Option (Unit × (Int × Unit)) :=
 if (decide ((IntKind.wrap .i64 (x1 - ((List.length x0 : Nat) : Int))) < (0 : Int))) = true then
  some ((), ((-1 : Int), ()))
 else
  if (laws_szGroupS.pre5 (x0, ((IntKind.wrap .i64 (x1 - ((List.length x0 : Nat) : Int))), ((0 : Int), ())))) = true then
   letB (laws_szGroupS.fn5 (x0, ((IntKind.wrap .i64 (x1 - ((List.length x0 : Nat) : Int))), ((0 : Int), ())))) fun v1 =>
   match v1 with
   | .inl y =>
    some ((), y)
   | .inr y =>
    some ((), y)
  else
   none
theorem ok5 (x1 : List Group) (x2 x3 : Int) (hp : pre5 (x1, (x2, (x3, ()))) = true) : Rounds pre5 mu5 fn5 (x1, (x2, (x3, ()))) (raw5 x1 x2 x3) := by
  unfold raw5
  by_cases hlt : x3 < (x1.length : Int)
  · obtain ⟨h0, h1, h2⟩ := sw_facts hp
    have q : laws_szGroup.pre (x1.getD x3.toNat ((0 : Int), (([] : List Int), (([] : List Int), (([] : List Int), ()))))) x2 = true := by simp only [laws_szGroup.pre, Bool.and_eq_true, decide_eq_true_eq]; exact ⟨h1, h2⟩
    simp only [letB, hlt, h0, q, decide_true, if_true]
    by_cases c : x2 - w_Group (x1.getD x3.toNat ((0 : Int), (([] : List Int), (([] : List Int), (([] : List Int), ()))))) < 0
    · rw [show laws_szGroup (x1.getD x3.toNat ((0 : Int), (([] : List Int), (([] : List Int), (([] : List Int), ()))))) x2 = -1 from szN_neg c, if_pos (by decide)]; exact sw_bad w_Group_nn hp hlt ((0 : Int), (([] : List Int), (([] : List Int), (([] : List Int), ())))) c
    · rw [show laws_szGroup (x1.getD x3.toNat ((0 : Int), (([] : List Int), (([] : List Int), (([] : List Int), ()))))) x2 = x2 - w_Group (x1.getD x3.toNat ((0 : Int), (([] : List Int), (([] : List Int), (([] : List Int), ()))))) from szN_pos c, if_neg (by rw [decide_eq_true_eq]; exact c)]; exact sw_good w_Group_nn hp hlt ((0 : Int), (([] : List Int), (([] : List Int), (([] : List Int), ())))) c
  · rw [if_neg (by simp [hlt])]; exact sw_end hp hlt
theorem eq (x0 : List Group) (x1 : Int) (hw : wf x0 x1) (hp : pre x0 x1 = true) : raw x0 x1 = some ((), (laws_szGroupS x0 x1, ())) := by
  have h1 : x0.length ≤ maxLen := hw.1.1
  simp only [pre, Bool.and_eq_true, decide_eq_true_eq] at hp
  have hM := maxLen_eq
  have hnn := sumW_nn w_Group_nn x0
  unfold raw
  rw [w64 (n := x1 - (x0.length : Int)) (by omega) (by omega)]
  by_cases c : x1 - (x0.length : Int) < 0
  · rw [if_pos (decide_eq_true c), show laws_szGroupS x0 x1 = -1 from szN_neg (by simp only [wL]; omega)]
  · rw [if_neg (by rw [decide_eq_true_eq]; exact c), if_pos (show pre5 _ = true from sw_start h1 (by omega) (by omega))]
    exact swFn_start x0 x1
end laws_szGroupS
def w_Keep (x : Keep) : Int := wL w_Row x.1 + wL w_Maker x.2.1 + wL w_Group x.2.2.1 + wL w_Int x.2.2.2.2.1 + wL w_Answer x.2.2.2.2.2.1
theorem w_Keep_nn (x : Keep) : 0 ≤ w_Keep x := by
  have n0 := wL_nn w_Row_nn x.1
  have n1 := wL_nn w_Maker_nn x.2.1
  have n2 := wL_nn w_Group_nn x.2.2.1
  have n4 := wL_nn w_Int_nn x.2.2.2.2.1
  have n5 := wL_nn w_Answer_nn x.2.2.2.2.2.1
  simp only [w_Keep]; omega
noncomputable def laws_eqKeep (a b : Keep) : Bool := same a b
namespace laws_eqKeep
abbrev wf (x0 : ((List Row) × ((List Maker) × ((List Group) × (Int × ((List Int) × ((List Answer) × Unit))))))) (x1 : ((List Row) × ((List Maker) × ((List Group) × (Int × ((List Int) × ((List Answer) × Unit))))))) : Prop := wfA [(.val (.pair (.sl 0 (.pair (.int .i64) (.pair (.int .i64) (.pair (.sl 0 (.pair (.int .i64) (.pair .str (.pair .str (.pair (.int .i64) (.pair (.int .i64) .unit)))))) .unit)))) (.pair (.sl 0 (.pair (.int .i64) (.pair (.int .i64) (.pair (.int .i64) (.pair (.int .i64) (.pair (.sl 0 (.pair (.int .i64) (.pair (.int .i64) .unit))) .unit)))))) (.pair (.sl 0 (.pair (.int .i64) (.pair (.sl 0 (.int .i64)) (.pair (.sl 0 (.int .i64)) (.pair (.sl 0 (.int .i64)) .unit))))) (.pair (.int .i64) (.pair (.sl 0 (.int .i64)) (.pair (.sl 0 (.pair (.int .i64) (.pair (.int .i64) (.pair .str (.pair .str .unit))))) .unit)))))) .f), (.val (.pair (.sl 0 (.pair (.int .i64) (.pair (.int .i64) (.pair (.sl 0 (.pair (.int .i64) (.pair .str (.pair .str (.pair (.int .i64) (.pair (.int .i64) .unit)))))) .unit)))) (.pair (.sl 0 (.pair (.int .i64) (.pair (.int .i64) (.pair (.int .i64) (.pair (.int .i64) (.pair (.sl 0 (.pair (.int .i64) (.pair (.int .i64) .unit))) .unit)))))) (.pair (.sl 0 (.pair (.int .i64) (.pair (.sl 0 (.int .i64)) (.pair (.sl 0 (.int .i64)) (.pair (.sl 0 (.int .i64)) .unit))))) (.pair (.int .i64) (.pair (.sl 0 (.int .i64)) (.pair (.sl 0 (.pair (.int .i64) (.pair (.int .i64) (.pair .str (.pair .str .unit))))) .unit)))))) .f)] (x0, (x1, ()))
noncomputable def raw (x0 : ((List Row) × ((List Maker) × ((List Group) × (Int × ((List Int) × ((List Answer) × Unit))))))) (x1 : ((List Row) × ((List Maker) × ((List Group) × (Int × ((List Int) × ((List Answer) × Unit))))))) : Option (Unit × (Bool × Unit)) :=
 letB (laws_eqRowS x0.1 x1.1) fun v1 =>
 if (!v1) = true then
  some ((), (false, ()))
 else
  letB (laws_eqMakerS x0.2.1 x1.2.1) fun v2 =>
  if (!v2) = true then
   some ((), (false, ()))
  else
   letB (laws_eqGroupS x0.2.2.1 x1.2.2.1) fun v3 =>
   if (!v3) = true then
    some ((), (false, ()))
   else
    if (!(decide (x0.2.2.2.1 = x1.2.2.2.1))) = true then
     some ((), (false, ()))
    else
     letB (laws_eqIntS x0.2.2.2.2.1 x1.2.2.2.2.1) fun v4 =>
     if (!v4) = true then
      some ((), (false, ()))
     else
      letB (laws_eqAnswerS x0.2.2.2.2.2.1 x1.2.2.2.2.2.1) fun v5 =>
      if (!v5) = true then
       some ((), (false, ()))
      else
       some ((), (true, ()))
theorem eq (x0 x1 : Keep) (_ : wf x0 x1) : raw x0 x1 = some ((), (laws_eqKeep x0 x1, ())) := by
  unfold raw laws_eqKeep
  try simp only [letB]
  by_cases c0 : x0.1 = x1.1
  case neg => rw [if_pos (by rw [laws_eqRowS, same_false.2 c0]; rfl), same_false.2 (fun h => c0 (congrArg (fun z : Keep => z.1) h))]
  rw [if_neg (by rw [laws_eqRowS, same_true.2 c0]; simp)]
  by_cases c1 : x0.2.1 = x1.2.1
  case neg => rw [if_pos (by rw [laws_eqMakerS, same_false.2 c1]; rfl), same_false.2 (fun h => c1 (congrArg (fun z : Keep => z.2.1) h))]
  rw [if_neg (by rw [laws_eqMakerS, same_true.2 c1]; simp)]
  by_cases c2 : x0.2.2.1 = x1.2.2.1
  case neg => rw [if_pos (by rw [laws_eqGroupS, same_false.2 c2]; rfl), same_false.2 (fun h => c2 (congrArg (fun z : Keep => z.2.2.1) h))]
  rw [if_neg (by rw [laws_eqGroupS, same_true.2 c2]; simp)]
  by_cases c3 : x0.2.2.2.1 = x1.2.2.2.1
  case neg => rw [if_pos (by simp [c3]), same_false.2 (fun h => c3 (congrArg (fun z : Keep => z.2.2.2.1) h))]
  rw [if_neg (by simp [c3])]
  by_cases c4 : x0.2.2.2.2.1 = x1.2.2.2.2.1
  case neg => rw [if_pos (by rw [laws_eqIntS, same_false.2 c4]; rfl), same_false.2 (fun h => c4 (congrArg (fun z : Keep => z.2.2.2.2.1) h))]
  rw [if_neg (by rw [laws_eqIntS, same_true.2 c4]; simp)]
  by_cases c5 : x0.2.2.2.2.2.1 = x1.2.2.2.2.2.1
  case neg => rw [if_pos (by rw [laws_eqAnswerS, same_false.2 c5]; rfl), same_false.2 (fun h => c5 (congrArg (fun z : Keep => z.2.2.2.2.2.1) h))]
  rw [if_neg (by rw [laws_eqAnswerS, same_true.2 c5]; simp)]
  rw [same_true.2 (Prod.ext c0 (Prod.ext c1 (Prod.ext c2 (Prod.ext c3 (Prod.ext c4 (Prod.ext c5 rfl))))))]
end laws_eqKeep
def laws_toKeep (x : Keep) : Keep := x
namespace laws_toKeep
def pre (x : Keep) : Bool := laws_toRowS.pre x.1 && laws_toMakerS.pre x.2.1 && laws_toGroupS.pre x.2.2.1 && laws_toIntS.pre x.2.2.2.2.1 && laws_toAnswerS.pre x.2.2.2.2.2.1
abbrev wf (x0 : ((List Row) × ((List Maker) × ((List Group) × (Int × ((List Int) × ((List Answer) × Unit))))))) : Prop := wfA [(.val (.pair (.sl 0 (.pair (.int .i64) (.pair (.int .i64) (.pair (.sl 0 (.pair (.int .i64) (.pair .str (.pair .str (.pair (.int .i64) (.pair (.int .i64) .unit)))))) .unit)))) (.pair (.sl 0 (.pair (.int .i64) (.pair (.int .i64) (.pair (.int .i64) (.pair (.int .i64) (.pair (.sl 0 (.pair (.int .i64) (.pair (.int .i64) .unit))) .unit)))))) (.pair (.sl 0 (.pair (.int .i64) (.pair (.sl 0 (.int .i64)) (.pair (.sl 0 (.int .i64)) (.pair (.sl 0 (.int .i64)) .unit))))) (.pair (.int .i64) (.pair (.sl 0 (.int .i64)) (.pair (.sl 0 (.pair (.int .i64) (.pair (.int .i64) (.pair .str (.pair .str .unit))))) .unit)))))) .f)] (x0, ())
noncomputable def raw (x0 : ((List Row) × ((List Maker) × ((List Group) × (Int × ((List Int) × ((List Answer) × Unit))))))) : Option (Unit × (((List Row) × ((List Maker) × ((List Group) × (Int × ((List Int) × ((List Answer) × Unit)))))) × Unit)) :=
 if (laws_toRowS.pre x0.1) = true then
  if (laws_toMakerS.pre x0.2.1) = true then
   if (laws_toGroupS.pre x0.2.2.1) = true then
    if (laws_toIntS.pre x0.2.2.2.2.1) = true then
     if (laws_toAnswerS.pre x0.2.2.2.2.2.1) = true then
      letB (laws_toRowS x0.1) fun v1 =>
      letB (laws_toMakerS x0.2.1) fun v2 =>
      letB (laws_toGroupS x0.2.2.1) fun v3 =>
      letB (laws_toIntS x0.2.2.2.2.1) fun v4 =>
      letB (laws_toAnswerS x0.2.2.2.2.2.1) fun v5 =>
      some ((), ((v1, (v2, (v3, (x0.2.2.2.1, (v4, (v5, ())))))), ()))
     else
      none
    else
     none
   else
    none
  else
   none
 else
  none
theorem eq (x0 : Keep) (_ : wf x0) (hp : pre x0 = true) : raw x0 = some ((), (laws_toKeep x0, ())) := by
  simp only [pre, Bool.and_eq_true] at hp
  unfold raw
  try simp only [letB]
  rw [if_pos hp.1.1.1.1, if_pos hp.1.1.1.2, if_pos hp.1.1.2, if_pos hp.1.2, if_pos hp.2]
  rfl
end laws_toKeep
theorem toKeep_pre {x : Keep} (h : w_Keep x ≤ 16777216) : laws_toKeep.pre x = true := by
  simp only [w_Keep] at h
  have n0 := wL_nn w_Row_nn x.1
  have n1 := wL_nn w_Maker_nn x.2.1
  have n2 := wL_nn w_Group_nn x.2.2.1
  have n4 := wL_nn w_Int_nn x.2.2.2.2.1
  have n5 := wL_nn w_Answer_nn x.2.2.2.2.2.1
  simp only [laws_toKeep.pre, Bool.and_eq_true]
  exact ⟨⟨⟨⟨toRowS_pre (by omega), toMakerS_pre (by omega)⟩, toGroupS_pre (by omega)⟩, toIntS_pre (by omega)⟩, toAnswerS_pre (by omega)⟩
def laws_szKeep (x : Keep) (l : Int) : Int := szN (w_Keep x) l
namespace laws_szKeep
def pre (_ : Keep) (l : Int) : Bool := decide (0 ≤ l) && decide (l ≤ maxLen)
abbrev wf (x0 : ((List Row) × ((List Maker) × ((List Group) × (Int × ((List Int) × ((List Answer) × Unit))))))) (x1 : Int) : Prop := wfA [(.val (.pair (.sl 0 (.pair (.int .i64) (.pair (.int .i64) (.pair (.sl 0 (.pair (.int .i64) (.pair .str (.pair .str (.pair (.int .i64) (.pair (.int .i64) .unit)))))) .unit)))) (.pair (.sl 0 (.pair (.int .i64) (.pair (.int .i64) (.pair (.int .i64) (.pair (.int .i64) (.pair (.sl 0 (.pair (.int .i64) (.pair (.int .i64) .unit))) .unit)))))) (.pair (.sl 0 (.pair (.int .i64) (.pair (.sl 0 (.int .i64)) (.pair (.sl 0 (.int .i64)) (.pair (.sl 0 (.int .i64)) .unit))))) (.pair (.int .i64) (.pair (.sl 0 (.int .i64)) (.pair (.sl 0 (.pair (.int .i64) (.pair (.int .i64) (.pair .str (.pair .str .unit))))) .unit)))))) .f), (.val (.int .i64) .f)] (x0, (x1, ()))
noncomputable def raw (x0 : ((List Row) × ((List Maker) × ((List Group) × (Int × ((List Int) × ((List Answer) × Unit))))))) (x1 : Int) : Option (Unit × (Int × Unit)) :=
 if (laws_szRowS.pre x0.1 x1) = true then
  letB (laws_szRowS x0.1 x1) fun v1 =>
  if (decide (v1 < (0 : Int))) = true then
   some ((), ((-1 : Int), ()))
  else
   if (laws_szMakerS.pre x0.2.1 v1) = true then
    letB (laws_szMakerS x0.2.1 v1) fun v2 =>
    if (decide (v2 < (0 : Int))) = true then
     some ((), ((-1 : Int), ()))
    else
     if (laws_szGroupS.pre x0.2.2.1 v2) = true then
      letB (laws_szGroupS x0.2.2.1 v2) fun v3 =>
      if (decide (v3 < (0 : Int))) = true then
       some ((), ((-1 : Int), ()))
      else
       if (laws_szIntS.pre x0.2.2.2.2.1 v3) = true then
        letB (laws_szIntS x0.2.2.2.2.1 v3) fun v4 =>
        if (decide (v4 < (0 : Int))) = true then
         some ((), ((-1 : Int), ()))
        else
         if (laws_szAnswerS.pre x0.2.2.2.2.2.1 v4) = true then
          letB (laws_szAnswerS x0.2.2.2.2.2.1 v4) fun v5 =>
          if (decide (v5 < (0 : Int))) = true then
           some ((), ((-1 : Int), ()))
          else
           some ((), (v5, ()))
         else
          none
       else
        none
     else
      none
   else
    none
 else
  none
theorem eq (x0 : Keep) (x1 : Int) (hw : wf x0 x1) (hp : pre x0 x1 = true) : raw x0 x1 = some ((), (laws_szKeep x0 x1, ())) := by
  simp only [pre, Bool.and_eq_true, decide_eq_true_eq] at hp
  have hM := maxLen_eq
  have t0 := wL_nn w_Row_nn x0.1
  have t1 := wL_nn w_Maker_nn x0.2.1
  have t2 := wL_nn w_Group_nn x0.2.2.1
  have t4 := wL_nn w_Int_nn x0.2.2.2.2.1
  have t5 := wL_nn w_Answer_nn x0.2.2.2.2.2.1
  unfold raw
  try simp only [letB]
  rw [if_pos (show laws_szRowS.pre _ _ = true by simp only [laws_szRowS.pre, Bool.and_eq_true, decide_eq_true_eq]; omega)]
  by_cases c0 : x1 - wL w_Row x0.1 < 0
  · rw [show laws_szRowS x0.1 (x1) = -1 from szN_neg c0, if_pos (by decide), show laws_szKeep x0 x1 = -1 from szN_neg (by simp only [w_Keep]; omega)]
  rw [show laws_szRowS x0.1 (x1) = x1 - wL w_Row x0.1 from szN_pos c0, if_neg (by rw [decide_eq_true_eq]; exact c0)]
  rw [if_pos (show laws_szMakerS.pre _ _ = true by simp only [laws_szMakerS.pre, Bool.and_eq_true, decide_eq_true_eq]; omega)]
  by_cases c1 : x1 - wL w_Row x0.1 - wL w_Maker x0.2.1 < 0
  · rw [show laws_szMakerS x0.2.1 (x1 - wL w_Row x0.1) = -1 from szN_neg c1, if_pos (by decide), show laws_szKeep x0 x1 = -1 from szN_neg (by simp only [w_Keep]; omega)]
  rw [show laws_szMakerS x0.2.1 (x1 - wL w_Row x0.1) = x1 - wL w_Row x0.1 - wL w_Maker x0.2.1 from szN_pos c1, if_neg (by rw [decide_eq_true_eq]; exact c1)]
  rw [if_pos (show laws_szGroupS.pre _ _ = true by simp only [laws_szGroupS.pre, Bool.and_eq_true, decide_eq_true_eq]; omega)]
  by_cases c2 : x1 - wL w_Row x0.1 - wL w_Maker x0.2.1 - wL w_Group x0.2.2.1 < 0
  · rw [show laws_szGroupS x0.2.2.1 (x1 - wL w_Row x0.1 - wL w_Maker x0.2.1) = -1 from szN_neg c2, if_pos (by decide), show laws_szKeep x0 x1 = -1 from szN_neg (by simp only [w_Keep]; omega)]
  rw [show laws_szGroupS x0.2.2.1 (x1 - wL w_Row x0.1 - wL w_Maker x0.2.1) = x1 - wL w_Row x0.1 - wL w_Maker x0.2.1 - wL w_Group x0.2.2.1 from szN_pos c2, if_neg (by rw [decide_eq_true_eq]; exact c2)]
  rw [if_pos (show laws_szIntS.pre _ _ = true by simp only [laws_szIntS.pre, Bool.and_eq_true, decide_eq_true_eq]; omega)]
  by_cases c4 : x1 - wL w_Row x0.1 - wL w_Maker x0.2.1 - wL w_Group x0.2.2.1 - wL w_Int x0.2.2.2.2.1 < 0
  · rw [show laws_szIntS x0.2.2.2.2.1 (x1 - wL w_Row x0.1 - wL w_Maker x0.2.1 - wL w_Group x0.2.2.1) = -1 from szN_neg c4, if_pos (by decide), show laws_szKeep x0 x1 = -1 from szN_neg (by simp only [w_Keep]; omega)]
  rw [show laws_szIntS x0.2.2.2.2.1 (x1 - wL w_Row x0.1 - wL w_Maker x0.2.1 - wL w_Group x0.2.2.1) = x1 - wL w_Row x0.1 - wL w_Maker x0.2.1 - wL w_Group x0.2.2.1 - wL w_Int x0.2.2.2.2.1 from szN_pos c4, if_neg (by rw [decide_eq_true_eq]; exact c4)]
  rw [if_pos (show laws_szAnswerS.pre _ _ = true by simp only [laws_szAnswerS.pre, Bool.and_eq_true, decide_eq_true_eq]; omega)]
  by_cases c5 : x1 - wL w_Row x0.1 - wL w_Maker x0.2.1 - wL w_Group x0.2.2.1 - wL w_Int x0.2.2.2.2.1 - wL w_Answer x0.2.2.2.2.2.1 < 0
  · rw [show laws_szAnswerS x0.2.2.2.2.2.1 (x1 - wL w_Row x0.1 - wL w_Maker x0.2.1 - wL w_Group x0.2.2.1 - wL w_Int x0.2.2.2.2.1) = -1 from szN_neg c5, if_pos (by decide), show laws_szKeep x0 x1 = -1 from szN_neg (by simp only [w_Keep]; omega)]
  rw [show laws_szAnswerS x0.2.2.2.2.2.1 (x1 - wL w_Row x0.1 - wL w_Maker x0.2.1 - wL w_Group x0.2.2.1 - wL w_Int x0.2.2.2.2.1) = x1 - wL w_Row x0.1 - wL w_Maker x0.2.1 - wL w_Group x0.2.2.1 - wL w_Int x0.2.2.2.2.1 - wL w_Answer x0.2.2.2.2.2.1 from szN_pos c5, if_neg (by rw [decide_eq_true_eq]; exact c5)]
  rw [show laws_szKeep x0 x1 = x1 - wL w_Row x0.1 - wL w_Maker x0.2.1 - wL w_Group x0.2.2.1 - wL w_Int x0.2.2.2.2.1 - wL w_Answer x0.2.2.2.2.2.1 from by rw [laws_szKeep, szN_pos (by simp only [w_Keep]; omega)]; simp only [w_Keep]; omega]
end laws_szKeep
def w_Hard (x : Hard) : Int := w_Log x.2.2.1 + w_Keep x.2.2.2.1
theorem w_Hard_nn (x : Hard) : 0 ≤ w_Hard x := by
  have n2 := w_Log_nn x.2.2.1
  have n3 := w_Keep_nn x.2.2.2.1
  simp only [w_Hard]; omega
noncomputable def laws_eqHard (a b : Hard) : Bool := same a b
namespace laws_eqHard
abbrev wf (x0 : (Int × (Int × (Log × (((List Row) × ((List Maker) × ((List Group) × (Int × ((List Int) × ((List Answer) × Unit)))))) × Unit))))) (x1 : (Int × (Int × (Log × (((List Row) × ((List Maker) × ((List Group) × (Int × ((List Int) × ((List Answer) × Unit)))))) × Unit))))) : Prop := wfA [(.val (.pair (.int .i64) (.pair (.int .i64) (.pair (.pair (.int .i64) (.pair (.int .i64) (.pair (.sl 0 (.pair (.int .i64) (.pair (.pair (.int .i64) (.pair (.int .i64) (.pair (.int .i64) (.pair (.int .i64) (.pair (.int .i64) (.pair (.int .i64) (.pair .str (.pair .str .unit)))))))) .unit))) .unit))) (.pair (.pair (.sl 0 (.pair (.int .i64) (.pair (.int .i64) (.pair (.sl 0 (.pair (.int .i64) (.pair .str (.pair .str (.pair (.int .i64) (.pair (.int .i64) .unit)))))) .unit)))) (.pair (.sl 0 (.pair (.int .i64) (.pair (.int .i64) (.pair (.int .i64) (.pair (.int .i64) (.pair (.sl 0 (.pair (.int .i64) (.pair (.int .i64) .unit))) .unit)))))) (.pair (.sl 0 (.pair (.int .i64) (.pair (.sl 0 (.int .i64)) (.pair (.sl 0 (.int .i64)) (.pair (.sl 0 (.int .i64)) .unit))))) (.pair (.int .i64) (.pair (.sl 0 (.int .i64)) (.pair (.sl 0 (.pair (.int .i64) (.pair (.int .i64) (.pair .str (.pair .str .unit))))) .unit)))))) .unit)))) .f), (.val (.pair (.int .i64) (.pair (.int .i64) (.pair (.pair (.int .i64) (.pair (.int .i64) (.pair (.sl 0 (.pair (.int .i64) (.pair (.pair (.int .i64) (.pair (.int .i64) (.pair (.int .i64) (.pair (.int .i64) (.pair (.int .i64) (.pair (.int .i64) (.pair .str (.pair .str .unit)))))))) .unit))) .unit))) (.pair (.pair (.sl 0 (.pair (.int .i64) (.pair (.int .i64) (.pair (.sl 0 (.pair (.int .i64) (.pair .str (.pair .str (.pair (.int .i64) (.pair (.int .i64) .unit)))))) .unit)))) (.pair (.sl 0 (.pair (.int .i64) (.pair (.int .i64) (.pair (.int .i64) (.pair (.int .i64) (.pair (.sl 0 (.pair (.int .i64) (.pair (.int .i64) .unit))) .unit)))))) (.pair (.sl 0 (.pair (.int .i64) (.pair (.sl 0 (.int .i64)) (.pair (.sl 0 (.int .i64)) (.pair (.sl 0 (.int .i64)) .unit))))) (.pair (.int .i64) (.pair (.sl 0 (.int .i64)) (.pair (.sl 0 (.pair (.int .i64) (.pair (.int .i64) (.pair .str (.pair .str .unit))))) .unit)))))) .unit)))) .f)] (x0, (x1, ()))
noncomputable def raw (x0 : (Int × (Int × (Log × (((List Row) × ((List Maker) × ((List Group) × (Int × ((List Int) × ((List Answer) × Unit)))))) × Unit))))) (x1 : (Int × (Int × (Log × (((List Row) × ((List Maker) × ((List Group) × (Int × ((List Int) × ((List Answer) × Unit)))))) × Unit))))) : Option (Unit × (Bool × Unit)) :=
 if (!(decide (x0.1 = x1.1))) = true then
  some ((), (false, ()))
 else
  if (!(decide (x0.2.1 = x1.2.1))) = true then
   some ((), (false, ()))
  else
   letB (laws_eqLog x0.2.2.1 x1.2.2.1) fun v1 =>
   if (!v1) = true then
    some ((), (false, ()))
   else
    letB (laws_eqKeep x0.2.2.2.1 x1.2.2.2.1) fun v2 =>
    if (!v2) = true then
     some ((), (false, ()))
    else
     some ((), (true, ()))
theorem eq (x0 x1 : Hard) (_ : wf x0 x1) : raw x0 x1 = some ((), (laws_eqHard x0 x1, ())) := by
  unfold raw laws_eqHard
  try simp only [letB]
  by_cases c0 : x0.1 = x1.1
  case neg => rw [if_pos (by simp [c0]), same_false.2 (fun h => c0 (congrArg (fun z : Hard => z.1) h))]
  rw [if_neg (by simp [c0])]
  by_cases c1 : x0.2.1 = x1.2.1
  case neg => rw [if_pos (by simp [c1]), same_false.2 (fun h => c1 (congrArg (fun z : Hard => z.2.1) h))]
  rw [if_neg (by simp [c1])]
  by_cases c2 : x0.2.2.1 = x1.2.2.1
  case neg => rw [if_pos (by rw [laws_eqLog, same_false.2 c2]; rfl), same_false.2 (fun h => c2 (congrArg (fun z : Hard => z.2.2.1) h))]
  rw [if_neg (by rw [laws_eqLog, same_true.2 c2]; simp)]
  by_cases c3 : x0.2.2.2.1 = x1.2.2.2.1
  case neg => rw [if_pos (by rw [laws_eqKeep, same_false.2 c3]; rfl), same_false.2 (fun h => c3 (congrArg (fun z : Hard => z.2.2.2.1) h))]
  rw [if_neg (by rw [laws_eqKeep, same_true.2 c3]; simp)]
  rw [same_true.2 (Prod.ext c0 (Prod.ext c1 (Prod.ext c2 (Prod.ext c3 rfl))))]
end laws_eqHard
def laws_toHard (x : Hard) : Hard := x
namespace laws_toHard
def pre (x : Hard) : Bool := laws_toLog.pre x.2.2.1 && laws_toKeep.pre x.2.2.2.1
abbrev wf (x0 : (Int × (Int × (Log × (((List Row) × ((List Maker) × ((List Group) × (Int × ((List Int) × ((List Answer) × Unit)))))) × Unit))))) : Prop := wfA [(.val (.pair (.int .i64) (.pair (.int .i64) (.pair (.pair (.int .i64) (.pair (.int .i64) (.pair (.sl 0 (.pair (.int .i64) (.pair (.pair (.int .i64) (.pair (.int .i64) (.pair (.int .i64) (.pair (.int .i64) (.pair (.int .i64) (.pair (.int .i64) (.pair .str (.pair .str .unit)))))))) .unit))) .unit))) (.pair (.pair (.sl 0 (.pair (.int .i64) (.pair (.int .i64) (.pair (.sl 0 (.pair (.int .i64) (.pair .str (.pair .str (.pair (.int .i64) (.pair (.int .i64) .unit)))))) .unit)))) (.pair (.sl 0 (.pair (.int .i64) (.pair (.int .i64) (.pair (.int .i64) (.pair (.int .i64) (.pair (.sl 0 (.pair (.int .i64) (.pair (.int .i64) .unit))) .unit)))))) (.pair (.sl 0 (.pair (.int .i64) (.pair (.sl 0 (.int .i64)) (.pair (.sl 0 (.int .i64)) (.pair (.sl 0 (.int .i64)) .unit))))) (.pair (.int .i64) (.pair (.sl 0 (.int .i64)) (.pair (.sl 0 (.pair (.int .i64) (.pair (.int .i64) (.pair .str (.pair .str .unit))))) .unit)))))) .unit)))) .f)] (x0, ())
noncomputable def raw (x0 : (Int × (Int × (Log × (((List Row) × ((List Maker) × ((List Group) × (Int × ((List Int) × ((List Answer) × Unit)))))) × Unit))))) : Option (Unit × ((Int × (Int × (Log × (((List Row) × ((List Maker) × ((List Group) × (Int × ((List Int) × ((List Answer) × Unit)))))) × Unit)))) × Unit)) :=
 if (laws_toLog.pre x0.2.2.1) = true then
  if (laws_toKeep.pre x0.2.2.2.1) = true then
   letB (laws_toLog x0.2.2.1) fun v1 =>
   letB (laws_toKeep x0.2.2.2.1) fun v2 =>
   some ((), ((x0.1, (x0.2.1, (v1, (v2, ())))), ()))
  else
   none
 else
  none
theorem eq (x0 : Hard) (_ : wf x0) (hp : pre x0 = true) : raw x0 = some ((), (laws_toHard x0, ())) := by
  simp only [pre, Bool.and_eq_true] at hp
  unfold raw
  try simp only [letB]
  rw [if_pos hp.1, if_pos hp.2]
  rfl
end laws_toHard
theorem toHard_pre {x : Hard} (h : w_Hard x ≤ 16777216) : laws_toHard.pre x = true := by
  simp only [w_Hard] at h
  have n2 := w_Log_nn x.2.2.1
  have n3 := w_Keep_nn x.2.2.2.1
  simp only [laws_toHard.pre, Bool.and_eq_true]
  exact ⟨toLog_pre (by omega), toKeep_pre (by omega)⟩
def laws_szHard (x : Hard) (l : Int) : Int := szN (w_Hard x) l
namespace laws_szHard
def pre (_ : Hard) (l : Int) : Bool := decide (0 ≤ l) && decide (l ≤ maxLen)
abbrev wf (x0 : (Int × (Int × (Log × (((List Row) × ((List Maker) × ((List Group) × (Int × ((List Int) × ((List Answer) × Unit)))))) × Unit))))) (x1 : Int) : Prop := wfA [(.val (.pair (.int .i64) (.pair (.int .i64) (.pair (.pair (.int .i64) (.pair (.int .i64) (.pair (.sl 0 (.pair (.int .i64) (.pair (.pair (.int .i64) (.pair (.int .i64) (.pair (.int .i64) (.pair (.int .i64) (.pair (.int .i64) (.pair (.int .i64) (.pair .str (.pair .str .unit)))))))) .unit))) .unit))) (.pair (.pair (.sl 0 (.pair (.int .i64) (.pair (.int .i64) (.pair (.sl 0 (.pair (.int .i64) (.pair .str (.pair .str (.pair (.int .i64) (.pair (.int .i64) .unit)))))) .unit)))) (.pair (.sl 0 (.pair (.int .i64) (.pair (.int .i64) (.pair (.int .i64) (.pair (.int .i64) (.pair (.sl 0 (.pair (.int .i64) (.pair (.int .i64) .unit))) .unit)))))) (.pair (.sl 0 (.pair (.int .i64) (.pair (.sl 0 (.int .i64)) (.pair (.sl 0 (.int .i64)) (.pair (.sl 0 (.int .i64)) .unit))))) (.pair (.int .i64) (.pair (.sl 0 (.int .i64)) (.pair (.sl 0 (.pair (.int .i64) (.pair (.int .i64) (.pair .str (.pair .str .unit))))) .unit)))))) .unit)))) .f), (.val (.int .i64) .f)] (x0, (x1, ()))
noncomputable def raw (x0 : (Int × (Int × (Log × (((List Row) × ((List Maker) × ((List Group) × (Int × ((List Int) × ((List Answer) × Unit)))))) × Unit))))) (x1 : Int) : Option (Unit × (Int × Unit)) :=
 if (laws_szLog.pre x0.2.2.1 x1) = true then
  letB (laws_szLog x0.2.2.1 x1) fun v1 =>
  if (decide (v1 < (0 : Int))) = true then
   some ((), ((-1 : Int), ()))
  else
   if (laws_szKeep.pre x0.2.2.2.1 v1) = true then
    letB (laws_szKeep x0.2.2.2.1 v1) fun v2 =>
    if (decide (v2 < (0 : Int))) = true then
     some ((), ((-1 : Int), ()))
    else
     some ((), (v2, ()))
   else
    none
 else
  none
theorem eq (x0 : Hard) (x1 : Int) (hw : wf x0 x1) (hp : pre x0 x1 = true) : raw x0 x1 = some ((), (laws_szHard x0 x1, ())) := by
  simp only [pre, Bool.and_eq_true, decide_eq_true_eq] at hp
  have hM := maxLen_eq
  have t2 := w_Log_nn x0.2.2.1
  have t3 := w_Keep_nn x0.2.2.2.1
  unfold raw
  try simp only [letB]
  rw [if_pos (show laws_szLog.pre _ _ = true by simp only [laws_szLog.pre, Bool.and_eq_true, decide_eq_true_eq]; omega)]
  by_cases c2 : x1 - w_Log x0.2.2.1 < 0
  · rw [show laws_szLog x0.2.2.1 (x1) = -1 from szN_neg c2, if_pos (by decide), show laws_szHard x0 x1 = -1 from szN_neg (by simp only [w_Hard]; omega)]
  rw [show laws_szLog x0.2.2.1 (x1) = x1 - w_Log x0.2.2.1 from szN_pos c2, if_neg (by rw [decide_eq_true_eq]; exact c2)]
  rw [if_pos (show laws_szKeep.pre _ _ = true by simp only [laws_szKeep.pre, Bool.and_eq_true, decide_eq_true_eq]; omega)]
  by_cases c3 : x1 - w_Log x0.2.2.1 - w_Keep x0.2.2.2.1 < 0
  · rw [show laws_szKeep x0.2.2.2.1 (x1 - w_Log x0.2.2.1) = -1 from szN_neg c3, if_pos (by decide), show laws_szHard x0 x1 = -1 from szN_neg (by simp only [w_Hard]; omega)]
  rw [show laws_szKeep x0.2.2.2.1 (x1 - w_Log x0.2.2.1) = x1 - w_Log x0.2.2.1 - w_Keep x0.2.2.2.1 from szN_pos c3, if_neg (by rw [decide_eq_true_eq]; exact c3)]
  rw [show laws_szHard x0 x1 = x1 - w_Log x0.2.2.1 - w_Keep x0.2.2.2.1 from by rw [laws_szHard, szN_pos (by simp only [w_Hard]; omega)]; simp only [w_Hard]; omega]
end laws_szHard
def w_Disk (x : Disk) : Int := wL w_Byte x.1
theorem w_Disk_nn (x : Disk) : 0 ≤ w_Disk x := by
  have n0 := wL_nn w_Byte_nn x.1
  simp only [w_Disk]; omega
noncomputable def laws_eqDisk (a b : Disk) : Bool := same a b
namespace laws_eqDisk
abbrev wf (x0 : Disk) (x1 : Disk) : Prop := wfA [(.val (.pair (.sl 0 (.int .u8)) (.pair (.int .i64) .unit)) .f), (.val (.pair (.sl 0 (.int .u8)) (.pair (.int .i64) .unit)) .f)] (x0, (x1, ()))
noncomputable def raw (x0 : Disk) (x1 : Disk) : Option (Unit × (Bool × Unit)) :=
 letB (laws_eqByteS x0.1 x1.1) fun v1 =>
 if (!v1) = true then
  some ((), (false, ()))
 else
  if (!(decide (x0.2.1 = x1.2.1))) = true then
   some ((), (false, ()))
  else
   some ((), (true, ()))
theorem eq (x0 x1 : Disk) (_ : wf x0 x1) : raw x0 x1 = some ((), (laws_eqDisk x0 x1, ())) := by
  unfold raw laws_eqDisk
  try simp only [letB]
  by_cases c0 : x0.1 = x1.1
  case neg => rw [if_pos (by rw [laws_eqByteS, same_false.2 c0]; rfl), same_false.2 (fun h => c0 (congrArg (fun z : Disk => z.1) h))]
  rw [if_neg (by rw [laws_eqByteS, same_true.2 c0]; simp)]
  by_cases c1 : x0.2.1 = x1.2.1
  case neg => rw [if_pos (by simp [c1]), same_false.2 (fun h => c1 (congrArg (fun z : Disk => z.2.1) h))]
  rw [if_neg (by simp [c1])]
  rw [same_true.2 (Prod.ext c0 (Prod.ext c1 rfl))]
end laws_eqDisk
def laws_toDisk (x : Disk) : Disk := x
namespace laws_toDisk
def pre (x : Disk) : Bool := laws_toByteS.pre x.1
abbrev wf (x0 : Disk) : Prop := wfA [(.val (.pair (.sl 0 (.int .u8)) (.pair (.int .i64) .unit)) .f)] (x0, ())
noncomputable def raw (x0 : Disk) : Option (Unit × (Disk × Unit)) :=
 if (laws_toByteS.pre x0.1) = true then
  letB (laws_toByteS x0.1) fun v1 =>
  some ((), ((v1, x0.2), ()))
 else
  none
theorem eq (x0 : Disk) (_ : wf x0) (hp : pre x0 = true) : raw x0 = some ((), (laws_toDisk x0, ())) := by
  simp only [pre, Bool.and_eq_true] at hp
  unfold raw
  try simp only [letB]
  rw [if_pos hp]
  rfl
end laws_toDisk
theorem toDisk_pre {x : Disk} (h : w_Disk x ≤ 16777216) : laws_toDisk.pre x = true := by
  simp only [w_Disk] at h
  have n0 := wL_nn w_Byte_nn x.1
  simp only [laws_toDisk.pre, Bool.and_eq_true]
  exact toByteS_pre (by omega)
def laws_szDisk (x : Disk) (l : Int) : Int := szN (w_Disk x) l
namespace laws_szDisk
def pre (_ : Disk) (l : Int) : Bool := decide (0 ≤ l) && decide (l ≤ maxLen)
abbrev wf (x0 : Disk) (x1 : Int) : Prop := wfA [(.val (.pair (.sl 0 (.int .u8)) (.pair (.int .i64) .unit)) .f), (.val (.int .i64) .f)] (x0, (x1, ()))
noncomputable def raw (x0 : Disk) (x1 : Int) : Option (Unit × (Int × Unit)) :=
 if (laws_szByteS.pre x0.1 x1) = true then
  letB (laws_szByteS x0.1 x1) fun v1 =>
  if (decide (v1 < (0 : Int))) = true then
   some ((), ((-1 : Int), ()))
  else
   some ((), (v1, ()))
 else
  none
theorem eq (x0 : Disk) (x1 : Int) (hw : wf x0 x1) (hp : pre x0 x1 = true) : raw x0 x1 = some ((), (laws_szDisk x0 x1, ())) := by
  simp only [pre, Bool.and_eq_true, decide_eq_true_eq] at hp
  have hM := maxLen_eq
  have t0 := wL_nn w_Byte_nn x0.1
  unfold raw
  try simp only [letB]
  rw [if_pos (show laws_szByteS.pre _ _ = true by simp only [laws_szByteS.pre, Bool.and_eq_true, decide_eq_true_eq]; omega)]
  by_cases c0 : x1 - wL w_Byte x0.1 < 0
  · rw [show laws_szByteS x0.1 (x1) = -1 from szN_neg c0, if_pos (by decide), show laws_szDisk x0 x1 = -1 from szN_neg (by simp only [w_Disk]; omega)]
  rw [show laws_szByteS x0.1 (x1) = x1 - wL w_Byte x0.1 from szN_pos c0, if_neg (by rw [decide_eq_true_eq]; exact c0)]
  rw [show laws_szDisk x0 x1 = x1 - wL w_Byte x0.1 from by rw [laws_szDisk, szN_pos (by simp only [w_Disk]; omega)]; simp only [w_Disk]]
end laws_szDisk
def w_Rpc (x : Rpc) : Int := wL w_Entry x.2.2.2.2.2.2.2.1 + (x.2.2.2.2.2.2.2.2.2.1.length : Int)
theorem w_Rpc_nn (x : Rpc) : 0 ≤ w_Rpc x := by
  have n7 := wL_nn w_Entry_nn x.2.2.2.2.2.2.2.1
  simp only [w_Rpc]; omega
noncomputable def laws_eqRpc (a b : Rpc) : Bool := same a b
namespace laws_eqRpc
abbrev wf (x0 : (Int × (Int × (Int × (Int × (Int × (Int × (Int × ((List Entry) × (Bool × ((List UInt8) × Unit))))))))))) (x1 : (Int × (Int × (Int × (Int × (Int × (Int × (Int × ((List Entry) × (Bool × ((List UInt8) × Unit))))))))))) : Prop := wfA [(.val (.pair (.int .i64) (.pair (.int .i64) (.pair (.int .i64) (.pair (.int .i64) (.pair (.int .i64) (.pair (.int .i64) (.pair (.int .i64) (.pair (.sl 0 (.pair (.int .i64) (.pair (.pair (.int .i64) (.pair (.int .i64) (.pair (.int .i64) (.pair (.int .i64) (.pair (.int .i64) (.pair (.int .i64) (.pair .str (.pair .str .unit)))))))) .unit))) (.pair .bool (.pair .str .unit)))))))))) .f), (.val (.pair (.int .i64) (.pair (.int .i64) (.pair (.int .i64) (.pair (.int .i64) (.pair (.int .i64) (.pair (.int .i64) (.pair (.int .i64) (.pair (.sl 0 (.pair (.int .i64) (.pair (.pair (.int .i64) (.pair (.int .i64) (.pair (.int .i64) (.pair (.int .i64) (.pair (.int .i64) (.pair (.int .i64) (.pair .str (.pair .str .unit)))))))) .unit))) (.pair .bool (.pair .str .unit)))))))))) .f)] (x0, (x1, ()))
noncomputable def raw (x0 : (Int × (Int × (Int × (Int × (Int × (Int × (Int × ((List Entry) × (Bool × ((List UInt8) × Unit))))))))))) (x1 : (Int × (Int × (Int × (Int × (Int × (Int × (Int × ((List Entry) × (Bool × ((List UInt8) × Unit))))))))))) : Option (Unit × (Bool × Unit)) :=
 if (!(decide (x0.1 = x1.1))) = true then
  some ((), (false, ()))
 else
  if (!(decide (x0.2.1 = x1.2.1))) = true then
   some ((), (false, ()))
  else
   if (!(decide (x0.2.2.1 = x1.2.2.1))) = true then
    some ((), (false, ()))
   else
    if (!(decide (x0.2.2.2.1 = x1.2.2.2.1))) = true then
     some ((), (false, ()))
    else
     if (!(decide (x0.2.2.2.2.1 = x1.2.2.2.2.1))) = true then
      some ((), (false, ()))
     else
      if (!(decide (x0.2.2.2.2.2.1 = x1.2.2.2.2.2.1))) = true then
       some ((), (false, ()))
      else
       if (!(decide (x0.2.2.2.2.2.2.1 = x1.2.2.2.2.2.2.1))) = true then
        some ((), (false, ()))
       else
        letB (laws_eqEntryS x0.2.2.2.2.2.2.2.1 x1.2.2.2.2.2.2.2.1) fun v1 =>
        if (!v1) = true then
         some ((), (false, ()))
        else
         if (!(x0.2.2.2.2.2.2.2.2.1 == x1.2.2.2.2.2.2.2.2.1)) = true then
          some ((), (false, ()))
         else
          if (!(x0.2.2.2.2.2.2.2.2.2.1 == x1.2.2.2.2.2.2.2.2.2.1)) = true then
           some ((), (false, ()))
          else
           some ((), (true, ()))
theorem eq (x0 x1 : Rpc) (_ : wf x0 x1) : raw x0 x1 = some ((), (laws_eqRpc x0 x1, ())) := by
  unfold raw laws_eqRpc
  try simp only [letB]
  by_cases c0 : x0.1 = x1.1
  case neg => rw [if_pos (by simp [c0]), same_false.2 (fun h => c0 (congrArg (fun z : Rpc => z.1) h))]
  rw [if_neg (by simp [c0])]
  by_cases c1 : x0.2.1 = x1.2.1
  case neg => rw [if_pos (by simp [c1]), same_false.2 (fun h => c1 (congrArg (fun z : Rpc => z.2.1) h))]
  rw [if_neg (by simp [c1])]
  by_cases c2 : x0.2.2.1 = x1.2.2.1
  case neg => rw [if_pos (by simp [c2]), same_false.2 (fun h => c2 (congrArg (fun z : Rpc => z.2.2.1) h))]
  rw [if_neg (by simp [c2])]
  by_cases c3 : x0.2.2.2.1 = x1.2.2.2.1
  case neg => rw [if_pos (by simp [c3]), same_false.2 (fun h => c3 (congrArg (fun z : Rpc => z.2.2.2.1) h))]
  rw [if_neg (by simp [c3])]
  by_cases c4 : x0.2.2.2.2.1 = x1.2.2.2.2.1
  case neg => rw [if_pos (by simp [c4]), same_false.2 (fun h => c4 (congrArg (fun z : Rpc => z.2.2.2.2.1) h))]
  rw [if_neg (by simp [c4])]
  by_cases c5 : x0.2.2.2.2.2.1 = x1.2.2.2.2.2.1
  case neg => rw [if_pos (by simp [c5]), same_false.2 (fun h => c5 (congrArg (fun z : Rpc => z.2.2.2.2.2.1) h))]
  rw [if_neg (by simp [c5])]
  by_cases c6 : x0.2.2.2.2.2.2.1 = x1.2.2.2.2.2.2.1
  case neg => rw [if_pos (by simp [c6]), same_false.2 (fun h => c6 (congrArg (fun z : Rpc => z.2.2.2.2.2.2.1) h))]
  rw [if_neg (by simp [c6])]
  by_cases c7 : x0.2.2.2.2.2.2.2.1 = x1.2.2.2.2.2.2.2.1
  case neg => rw [if_pos (by rw [laws_eqEntryS, same_false.2 c7]; rfl), same_false.2 (fun h => c7 (congrArg (fun z : Rpc => z.2.2.2.2.2.2.2.1) h))]
  rw [if_neg (by rw [laws_eqEntryS, same_true.2 c7]; simp)]
  by_cases c8 : x0.2.2.2.2.2.2.2.2.1 = x1.2.2.2.2.2.2.2.2.1
  case neg => rw [if_pos (by simp [c8]), same_false.2 (fun h => c8 (congrArg (fun z : Rpc => z.2.2.2.2.2.2.2.2.1) h))]
  rw [if_neg (by simp [c8])]
  by_cases c9 : x0.2.2.2.2.2.2.2.2.2.1 = x1.2.2.2.2.2.2.2.2.2.1
  case neg => rw [if_pos (by simp [c9]), same_false.2 (fun h => c9 (congrArg (fun z : Rpc => z.2.2.2.2.2.2.2.2.2.1) h))]
  rw [if_neg (by simp [c9])]
  rw [same_true.2 (Prod.ext c0 (Prod.ext c1 (Prod.ext c2 (Prod.ext c3 (Prod.ext c4 (Prod.ext c5 (Prod.ext c6 (Prod.ext c7 (Prod.ext c8 (Prod.ext c9 rfl))))))))))]
end laws_eqRpc
def laws_toRpc (x : Rpc) : Rpc := x
namespace laws_toRpc
def pre (x : Rpc) : Bool := laws_toEntryS.pre x.2.2.2.2.2.2.2.1
abbrev wf (x0 : (Int × (Int × (Int × (Int × (Int × (Int × (Int × ((List Entry) × (Bool × ((List UInt8) × Unit))))))))))) : Prop := wfA [(.val (.pair (.int .i64) (.pair (.int .i64) (.pair (.int .i64) (.pair (.int .i64) (.pair (.int .i64) (.pair (.int .i64) (.pair (.int .i64) (.pair (.sl 0 (.pair (.int .i64) (.pair (.pair (.int .i64) (.pair (.int .i64) (.pair (.int .i64) (.pair (.int .i64) (.pair (.int .i64) (.pair (.int .i64) (.pair .str (.pair .str .unit)))))))) .unit))) (.pair .bool (.pair .str .unit)))))))))) .f)] (x0, ())
noncomputable def raw (x0 : (Int × (Int × (Int × (Int × (Int × (Int × (Int × ((List Entry) × (Bool × ((List UInt8) × Unit))))))))))) : Option (Unit × ((Int × (Int × (Int × (Int × (Int × (Int × (Int × ((List Entry) × (Bool × ((List UInt8) × Unit)))))))))) × Unit)) :=
 if (laws_toEntryS.pre x0.2.2.2.2.2.2.2.1) = true then
  letB (laws_toEntryS x0.2.2.2.2.2.2.2.1) fun v1 =>
  some ((), ((x0.1, (x0.2.1, (x0.2.2.1, (x0.2.2.2.1, (x0.2.2.2.2.1, (x0.2.2.2.2.2.1, (x0.2.2.2.2.2.2.1, (v1, x0.2.2.2.2.2.2.2.2)))))))), ()))
 else
  none
theorem eq (x0 : Rpc) (_ : wf x0) (hp : pre x0 = true) : raw x0 = some ((), (laws_toRpc x0, ())) := by
  simp only [pre, Bool.and_eq_true] at hp
  unfold raw
  try simp only [letB]
  rw [if_pos hp]
  rfl
end laws_toRpc
theorem toRpc_pre {x : Rpc} (h : w_Rpc x ≤ 16777216) : laws_toRpc.pre x = true := by
  simp only [w_Rpc] at h
  have n7 := wL_nn w_Entry_nn x.2.2.2.2.2.2.2.1
  simp only [laws_toRpc.pre, Bool.and_eq_true]
  have n9 : 0 ≤ (x.2.2.2.2.2.2.2.2.2.1.length : Int) := by omega
  exact toEntryS_pre (by omega)
def laws_szRpc (x : Rpc) (l : Int) : Int := szN (w_Rpc x) l
namespace laws_szRpc
def pre (_ : Rpc) (l : Int) : Bool := decide (0 ≤ l) && decide (l ≤ maxLen)
abbrev wf (x0 : (Int × (Int × (Int × (Int × (Int × (Int × (Int × ((List Entry) × (Bool × ((List UInt8) × Unit))))))))))) (x1 : Int) : Prop := wfA [(.val (.pair (.int .i64) (.pair (.int .i64) (.pair (.int .i64) (.pair (.int .i64) (.pair (.int .i64) (.pair (.int .i64) (.pair (.int .i64) (.pair (.sl 0 (.pair (.int .i64) (.pair (.pair (.int .i64) (.pair (.int .i64) (.pair (.int .i64) (.pair (.int .i64) (.pair (.int .i64) (.pair (.int .i64) (.pair .str (.pair .str .unit)))))))) .unit))) (.pair .bool (.pair .str .unit)))))))))) .f), (.val (.int .i64) .f)] (x0, (x1, ()))
noncomputable def raw (x0 : (Int × (Int × (Int × (Int × (Int × (Int × (Int × ((List Entry) × (Bool × ((List UInt8) × Unit))))))))))) (x1 : Int) : Option (Unit × (Int × Unit)) :=
 if (laws_szEntryS.pre x0.2.2.2.2.2.2.2.1 x1) = true then
  letB (laws_szEntryS x0.2.2.2.2.2.2.2.1 x1) fun v1 =>
  if (decide (v1 < (0 : Int))) = true then
   some ((), ((-1 : Int), ()))
  else
   if (decide ((IntKind.wrap .i64 (v1 - ((List.length x0.2.2.2.2.2.2.2.2.2.1 : Nat) : Int))) < (0 : Int))) = true then
    some ((), ((-1 : Int), ()))
   else
    some ((), ((IntKind.wrap .i64 (v1 - ((List.length x0.2.2.2.2.2.2.2.2.2.1 : Nat) : Int))), ()))
 else
  none
theorem eq (x0 : Rpc) (x1 : Int) (hw : wf x0 x1) (hp : pre x0 x1 = true) : raw x0 x1 = some ((), (laws_szRpc x0 x1, ())) := by
  simp only [pre, Bool.and_eq_true, decide_eq_true_eq] at hp
  have hM := maxLen_eq
  have t7 := wL_nn w_Entry_nn x0.2.2.2.2.2.2.2.1
  have t9 : x0.2.2.2.2.2.2.2.2.2.1.length ≤ maxLen := hw.1.2.2.2.2.2.2.2.2.2.1
  unfold raw
  try simp only [letB]
  rw [if_pos (show laws_szEntryS.pre _ _ = true by simp only [laws_szEntryS.pre, Bool.and_eq_true, decide_eq_true_eq]; omega)]
  by_cases c7 : x1 - wL w_Entry x0.2.2.2.2.2.2.2.1 < 0
  · rw [show laws_szEntryS x0.2.2.2.2.2.2.2.1 (x1) = -1 from szN_neg c7, if_pos (by decide), show laws_szRpc x0 x1 = -1 from szN_neg (by simp only [w_Rpc]; omega)]
  rw [show laws_szEntryS x0.2.2.2.2.2.2.2.1 (x1) = x1 - wL w_Entry x0.2.2.2.2.2.2.2.1 from szN_pos c7, if_neg (by rw [decide_eq_true_eq]; exact c7)]
  rw [w64 (n := x1 - wL w_Entry x0.2.2.2.2.2.2.2.1 - (x0.2.2.2.2.2.2.2.2.2.1.length : Int)) (by omega) (by omega)]
  by_cases c9 : x1 - wL w_Entry x0.2.2.2.2.2.2.2.1 - (x0.2.2.2.2.2.2.2.2.2.1.length : Int) < 0
  · rw [if_pos (decide_eq_true c9), show laws_szRpc x0 x1 = -1 from szN_neg (by simp only [w_Rpc]; omega)]
  rw [if_neg (by rw [decide_eq_true_eq]; exact c9)]
  rw [show laws_szRpc x0 x1 = x1 - wL w_Entry x0.2.2.2.2.2.2.2.1 - (x0.2.2.2.2.2.2.2.2.2.1.length : Int) from by rw [laws_szRpc, szN_pos (by simp only [w_Rpc]; omega)]; simp only [w_Rpc]; omega]
end laws_szRpc
noncomputable def laws_eqRpcS (a b : List Rpc) : Bool := same a b
namespace laws_eqRpcS
def pre4 := eqPre (α := Rpc)
noncomputable def fn4 := eqFn (α := Rpc)
def mu4 := eqMu (α := Rpc)
noncomputable def raw4 (x1 : (List (Int × (Int × (Int × (Int × (Int × (Int × (Int × ((List Entry) × (Bool × ((List UInt8) × Unit)))))))))))) (x2 : (List (Int × (Int × (Int × (Int × (Int × (Int × (Int × ((List Entry) × (Bool × ((List UInt8) × Unit)))))))))))) (x3 : Int) : Option (((List (Int × (Int × (Int × (Int × (Int × (Int × (Int × ((List Entry) × (Bool × ((List UInt8) × Unit))))))))))) × ((List (Int × (Int × (Int × (Int × (Int × (Int × (Int × ((List Entry) × (Bool × ((List UInt8) × Unit))))))))))) × (Int × Unit))) ⊕ ((Bool × Unit) ⊕ Unit)) :=
 if (decide (x3 < ((List.length x1 : Nat) : Int))) = true then
  if (decide ((0 : Int) ≤ x3)) = true then
   if (decide (x3 < ((List.length x1 : Nat) : Int))) = true then
    if (decide ((0 : Int) ≤ x3)) = true then
     if (decide (x3 < ((List.length x2 : Nat) : Int))) = true then
      letB (laws_eqRpc (List.getD x1 (Int.toNat x3) ((0 : Int), ((0 : Int), ((0 : Int), ((0 : Int), ((0 : Int), ((0 : Int), ((0 : Int), (([] : List Entry), (false, (([] : List UInt8), ()))))))))))) (List.getD x2 (Int.toNat x3) ((0 : Int), ((0 : Int), ((0 : Int), ((0 : Int), ((0 : Int), ((0 : Int), ((0 : Int), (([] : List Entry), (false, (([] : List UInt8), ())))))))))))) fun v1 =>
      if (!v1) = true then
       some (.inr (.inl (false, ())))
      else
       some (.inl (x1, (x2, ((IntKind.wrap .i64 (x3 + (1 : Int))), ()))))
     else
      none
    else
     none
   else
    none
  else
   none
 else
  some (.inr (.inr ()))
abbrev wf (x0 : (List (Int × (Int × (Int × (Int × (Int × (Int × (Int × ((List Entry) × (Bool × ((List UInt8) × Unit)))))))))))) (x1 : (List (Int × (Int × (Int × (Int × (Int × (Int × (Int × ((List Entry) × (Bool × ((List UInt8) × Unit)))))))))))) : Prop := wfA [(.val (.sl 0 (.pair (.int .i64) (.pair (.int .i64) (.pair (.int .i64) (.pair (.int .i64) (.pair (.int .i64) (.pair (.int .i64) (.pair (.int .i64) (.pair (.sl 0 (.pair (.int .i64) (.pair (.pair (.int .i64) (.pair (.int .i64) (.pair (.int .i64) (.pair (.int .i64) (.pair (.int .i64) (.pair (.int .i64) (.pair .str (.pair .str .unit)))))))) .unit))) (.pair .bool (.pair .str .unit))))))))))) .f), (.val (.sl 0 (.pair (.int .i64) (.pair (.int .i64) (.pair (.int .i64) (.pair (.int .i64) (.pair (.int .i64) (.pair (.int .i64) (.pair (.int .i64) (.pair (.sl 0 (.pair (.int .i64) (.pair (.pair (.int .i64) (.pair (.int .i64) (.pair (.int .i64) (.pair (.int .i64) (.pair (.int .i64) (.pair (.int .i64) (.pair .str (.pair .str .unit)))))))) .unit))) (.pair .bool (.pair .str .unit))))))))))) .f)] (x0, (x1, ()))
noncomputable def raw (x0 : (List (Int × (Int × (Int × (Int × (Int × (Int × (Int × ((List Entry) × (Bool × ((List UInt8) × Unit)))))))))))) (x1 : (List (Int × (Int × (Int × (Int × (Int × (Int × (Int × ((List Entry) × (Bool × ((List UInt8) × Unit)))))))))))) : Option (Unit × (Bool × Unit)) :=
 if (!(decide (((List.length x0 : Nat) : Int) = ((List.length x1 : Nat) : Int)))) = true then
  some ((), (false, ()))
 else
  if (laws_eqRpcS.pre4 (x0, (x1, ((0 : Int), ())))) = true then
   letB (laws_eqRpcS.fn4 (x0, (x1, ((0 : Int), ())))) fun v1 =>
   match v1 with
   | .inl y =>
    some ((), y)
   | .inr y =>
    some ((), (true, ()))
  else
   none
theorem ok4 (x1 x2 : List Rpc) (x3 : Int) (hp : pre4 (x1, (x2, (x3, ()))) = true) : Rounds pre4 mu4 fn4 (x1, (x2, (x3, ()))) (raw4 x1 x2 x3) := by
  unfold raw4
  by_cases hlt : x3 < (x1.length : Int)
  · obtain ⟨h1, h2, h3, h4⟩ := eq_next hp hlt ((0 : Int), ((0 : Int), ((0 : Int), ((0 : Int), ((0 : Int), ((0 : Int), ((0 : Int), (([] : List Entry), (false, (([] : List UInt8), ()))))))))))
    simp only [letB, hlt, h1, h2, decide_true, if_true]
    by_cases h : x1.getD x3.toNat ((0 : Int), ((0 : Int), ((0 : Int), ((0 : Int), ((0 : Int), ((0 : Int), ((0 : Int), (([] : List Entry), (false, (([] : List UInt8), ())))))))))) = x2.getD x3.toNat ((0 : Int), ((0 : Int), ((0 : Int), ((0 : Int), ((0 : Int), ((0 : Int), ((0 : Int), (([] : List Entry), (false, (([] : List UInt8), ()))))))))))
    · rw [if_neg (by rw [laws_eqRpc, same_true.2 h]; simp)]; exact h3 h
    · rw [if_pos (by rw [laws_eqRpc, same_false.2 h]; rfl)]; exact h4 h
  · simp only [hlt, decide_false, Bool.false_eq_true, if_false]
    exact eq_end hp hlt
theorem eq (x0 x1 : List Rpc) (hw : wf x0 x1) : raw x0 x1 = some ((), (laws_eqRpcS x0 x1, ())) := by
  have h1 : x0.length ≤ maxLen := hw.1.1
  unfold raw laws_eqRpcS
  by_cases hl : (x0.length : Int) = (x1.length : Int)
  · rw [if_neg (by simp [hl]), if_pos (show pre4 _ = true from eq_start h1 hl)]
    unfold fn4
    by_cases he : x0 = x1
    · rw [eqFn_eq he, same_true.2 he]; rfl
    · rw [eqFn_ne he, same_false.2 he]; rfl
  · have : ¬ x0 = x1 := fun h => hl (by rw [h])
    rw [if_pos (by simp [hl]), same_false.2 this]
end laws_eqRpcS
def laws_toRpcS (xs : List Rpc) : List Rpc := xs
namespace laws_toRpcS
def pre (xs : List Rpc) : Bool := small xs && xs.all laws_toRpc.pre
noncomputable def pre3 := tcPreB (α := Rpc) laws_toRpc.pre
def fn3 := toFn (α := Rpc)
def mu3 := toMu (α := Rpc)
noncomputable def raw3 (x1 : (List (Int × (Int × (Int × (Int × (Int × (Int × (Int × ((List Entry) × (Bool × ((List UInt8) × Unit)))))))))))) (x2 : Int) (x3 : (List (Int × (Int × (Int × (Int × (Int × (Int × (Int × ((List Entry) × (Bool × ((List UInt8) × Unit)))))))))))) : Option (((List (Int × (Int × (Int × (Int × (Int × (Int × (Int × ((List Entry) × (Bool × ((List UInt8) × Unit))))))))))) × (Int × ((List (Int × (Int × (Int × (Int × (Int × (Int × (Int × ((List Entry) × (Bool × ((List UInt8) × Unit))))))))))) × Unit))) ⊕ ((List (Int × (Int × (Int × (Int × (Int × (Int × (Int × ((List Entry) × (Bool × ((List UInt8) × Unit))))))))))) × Unit)) :=
 if (decide (x2 < ((List.length x1 : Nat) : Int))) = true then
  if (decide ((0 : Int) ≤ x2)) = true then
   if (decide (x2 < ((List.length x1 : Nat) : Int))) = true then
    if (laws_toRpc.pre (List.getD x1 (Int.toNat x2) ((0 : Int), ((0 : Int), ((0 : Int), ((0 : Int), ((0 : Int), ((0 : Int), ((0 : Int), (([] : List Entry), (false, (([] : List UInt8), ())))))))))))) = true then
     if (decide ((0 : Int) ≤ x2)) = true then
      if (decide (x2 < ((List.length x3 : Nat) : Int))) = true then
       some (.inl (x1, ((IntKind.wrap .i64 (x2 + (1 : Int))), ((List.modify x3 (Int.toNat x2) (fun z => (laws_toRpc (List.getD x1 (Int.toNat x2) ((0 : Int), ((0 : Int), ((0 : Int), ((0 : Int), ((0 : Int), ((0 : Int), ((0 : Int), (([] : List Entry), (false, (([] : List UInt8), ())))))))))))))), ()))))
      else
       none
     else
      none
    else
     none
   else
    none
  else
   none
 else
  some (.inr (x3, ()))
abbrev wf (x0 : (List (Int × (Int × (Int × (Int × (Int × (Int × (Int × ((List Entry) × (Bool × ((List UInt8) × Unit)))))))))))) : Prop := wfA [(.val (.sl 0 (.pair (.int .i64) (.pair (.int .i64) (.pair (.int .i64) (.pair (.int .i64) (.pair (.int .i64) (.pair (.int .i64) (.pair (.int .i64) (.pair (.sl 0 (.pair (.int .i64) (.pair (.pair (.int .i64) (.pair (.int .i64) (.pair (.int .i64) (.pair (.int .i64) (.pair (.int .i64) (.pair (.int .i64) (.pair .str (.pair .str .unit)))))))) .unit))) (.pair .bool (.pair .str .unit))))))))))) .f)] (x0, ())
noncomputable def raw (x0 : (List (Int × (Int × (Int × (Int × (Int × (Int × (Int × ((List Entry) × (Bool × ((List UInt8) × Unit)))))))))))) : Option (Unit × ((List (Int × (Int × (Int × (Int × (Int × (Int × (Int × ((List Entry) × (Bool × ((List UInt8) × Unit))))))))))) × Unit)) :=
 if (decide ((0 : Int) ≤ ((List.length x0 : Nat) : Int))) = true then
  if (decide (((List.length x0 : Nat) : Int) ≤ ((List.length x0 : Nat) : Int))) = true then
   if (decide (((List.length x0 : Nat) : Int) ≤ (4294967296 : Int))) = true then
    if (laws_toRpcS.pre3 (x0, ((0 : Int), ((List.replicate (Int.toNat ((List.length x0 : Nat) : Int)) ((0 : Int), ((0 : Int), ((0 : Int), ((0 : Int), ((0 : Int), ((0 : Int), ((0 : Int), (([] : List Entry), (false, (([] : List UInt8), ()))))))))))), ())))) = true then
     letB (laws_toRpcS.fn3 (x0, ((0 : Int), ((List.replicate (Int.toNat ((List.length x0 : Nat) : Int)) ((0 : Int), ((0 : Int), ((0 : Int), ((0 : Int), ((0 : Int), ((0 : Int), ((0 : Int), (([] : List Entry), (false, (([] : List UInt8), ()))))))))))), ())))) fun v1 =>
     some ((), v1)
    else
     none
   else
    none
  else
   none
 else
  none
theorem ok3 (x1 : List Rpc) (x2 : Int) (x3 : List Rpc) (hp : pre3 (x1, (x2, (x3, ()))) = true) : Rounds pre3 mu3 fn3 (x1, (x2, (x3, ()))) (raw3 x1 x2 x3) := by
  unfold raw3
  by_cases hlt : x2 < (x1.length : Int)
  · obtain ⟨h1, h2, h3⟩ := tc_facts hp hlt ((0 : Int), ((0 : Int), ((0 : Int), ((0 : Int), ((0 : Int), ((0 : Int), ((0 : Int), (([] : List Entry), (false, (([] : List UInt8), ()))))))))))
    simp only [letB, hlt, h1, h2, h3, decide_true, if_true]
    exact tc_step hp hlt ((0 : Int), ((0 : Int), ((0 : Int), ((0 : Int), ((0 : Int), ((0 : Int), ((0 : Int), (([] : List Entry), (false, (([] : List UInt8), ())))))))))) rfl
  · rw [if_neg (by simp [hlt])]; exact tc_end hp hlt
theorem eq (x0 : List Rpc) (hw : wf x0) (hp : pre x0 = true) : raw x0 = some ((), (laws_toRpcS x0, ())) := by
  have h1 : x0.length ≤ maxLen := hw.1.1
  simp only [pre, Bool.and_eq_true, small_iff] at hp
  unfold raw
  rw [if_pos (by simp), if_pos (by simp), if_pos (by simp; omega), if_pos (show pre3 _ = true from tc_start h1 hp.2 _)]
  rfl
end laws_toRpcS
theorem toRpcS_pre {xs : List Rpc} (h : wL w_Rpc xs ≤ 16777216) : laws_toRpcS.pre xs = true := by
  have hl := wL_nn w_Rpc_nn xs
  simp only [laws_toRpcS.pre, Bool.and_eq_true, small_iff]
  refine ⟨by omega, List.all_eq_true.2 fun x hx => toRpc_pre ?_⟩
  have := wL_get w_Rpc_nn hx
  omega
def laws_szRpcS (xs : List Rpc) (l : Int) : Int := szN (wL w_Rpc xs) l
namespace laws_szRpcS
def pre (_ : List Rpc) (l : Int) : Bool := decide (0 ≤ l) && decide (l ≤ maxLen)
def pre5 := swPre (α := Rpc)
def fn5 := swFn w_Rpc
def mu5 := szMu (α := Rpc)
noncomputable def raw5 (x1 : (List (Int × (Int × (Int × (Int × (Int × (Int × (Int × ((List Entry) × (Bool × ((List UInt8) × Unit)))))))))))) (x2 : Int) (x3 : Int) : Option (((List (Int × (Int × (Int × (Int × (Int × (Int × (Int × ((List Entry) × (Bool × ((List UInt8) × Unit))))))))))) × Mark) ⊕ ((Int × Unit) ⊕ (Int × Unit))) :=
 if (decide (x3 < ((List.length x1 : Nat) : Int))) = true then
  if (decide ((0 : Int) ≤ x3)) = true then
   if (decide (x3 < ((List.length x1 : Nat) : Int))) = true then
    if (laws_szRpc.pre (List.getD x1 (Int.toNat x3) ((0 : Int), ((0 : Int), ((0 : Int), ((0 : Int), ((0 : Int), ((0 : Int), ((0 : Int), (([] : List Entry), (false, (([] : List UInt8), ()))))))))))) x2) = true then
     letB (laws_szRpc (List.getD x1 (Int.toNat x3) ((0 : Int), ((0 : Int), ((0 : Int), ((0 : Int), ((0 : Int), ((0 : Int), ((0 : Int), (([] : List Entry), (false, (([] : List UInt8), ()))))))))))) x2) fun v1 =>
     if (decide (v1 < (0 : Int))) = true then
      some (.inr (.inl ((-1 : Int), ())))
     else
      some (.inl (x1, (v1, ((IntKind.wrap .i64 (x3 + (1 : Int))), ()))))
    else
     none
   else
    none
  else
   none
 else
  some (.inr (.inr (x2, ())))
abbrev wf (x0 : (List (Int × (Int × (Int × (Int × (Int × (Int × (Int × ((List Entry) × (Bool × ((List UInt8) × Unit)))))))))))) (x1 : Int) : Prop := wfA [(.val (.sl 0 (.pair (.int .i64) (.pair (.int .i64) (.pair (.int .i64) (.pair (.int .i64) (.pair (.int .i64) (.pair (.int .i64) (.pair (.int .i64) (.pair (.sl 0 (.pair (.int .i64) (.pair (.pair (.int .i64) (.pair (.int .i64) (.pair (.int .i64) (.pair (.int .i64) (.pair (.int .i64) (.pair (.int .i64) (.pair .str (.pair .str .unit)))))))) .unit))) (.pair .bool (.pair .str .unit))))))))))) .f), (.val (.int .i64) .f)] (x0, (x1, ()))
noncomputable def raw (x0 : (List (Int × (Int × (Int × (Int × (Int × (Int × (Int × ((List Entry) × (Bool × ((List UInt8) × Unit)))))))))))) (x1 : Int) : Option (Unit × (Int × Unit)) :=
 if (decide ((IntKind.wrap .i64 (x1 - ((List.length x0 : Nat) : Int))) < (0 : Int))) = true then
  some ((), ((-1 : Int), ()))
 else
  if (laws_szRpcS.pre5 (x0, ((IntKind.wrap .i64 (x1 - ((List.length x0 : Nat) : Int))), ((0 : Int), ())))) = true then
   letB (laws_szRpcS.fn5 (x0, ((IntKind.wrap .i64 (x1 - ((List.length x0 : Nat) : Int))), ((0 : Int), ())))) fun v1 =>
   match v1 with
   | .inl y =>
    some ((), y)
   | .inr y =>
    some ((), y)
  else
   none
theorem ok5 (x1 : List Rpc) (x2 x3 : Int) (hp : pre5 (x1, (x2, (x3, ()))) = true) : Rounds pre5 mu5 fn5 (x1, (x2, (x3, ()))) (raw5 x1 x2 x3) := by
  unfold raw5
  by_cases hlt : x3 < (x1.length : Int)
  · obtain ⟨h0, h1, h2⟩ := sw_facts hp
    have q : laws_szRpc.pre (x1.getD x3.toNat ((0 : Int), ((0 : Int), ((0 : Int), ((0 : Int), ((0 : Int), ((0 : Int), ((0 : Int), (([] : List Entry), (false, (([] : List UInt8), ()))))))))))) x2 = true := by simp only [laws_szRpc.pre, Bool.and_eq_true, decide_eq_true_eq]; exact ⟨h1, h2⟩
    simp only [letB, hlt, h0, q, decide_true, if_true]
    by_cases c : x2 - w_Rpc (x1.getD x3.toNat ((0 : Int), ((0 : Int), ((0 : Int), ((0 : Int), ((0 : Int), ((0 : Int), ((0 : Int), (([] : List Entry), (false, (([] : List UInt8), ()))))))))))) < 0
    · rw [show laws_szRpc (x1.getD x3.toNat ((0 : Int), ((0 : Int), ((0 : Int), ((0 : Int), ((0 : Int), ((0 : Int), ((0 : Int), (([] : List Entry), (false, (([] : List UInt8), ()))))))))))) x2 = -1 from szN_neg c, if_pos (by decide)]; exact sw_bad w_Rpc_nn hp hlt ((0 : Int), ((0 : Int), ((0 : Int), ((0 : Int), ((0 : Int), ((0 : Int), ((0 : Int), (([] : List Entry), (false, (([] : List UInt8), ())))))))))) c
    · rw [show laws_szRpc (x1.getD x3.toNat ((0 : Int), ((0 : Int), ((0 : Int), ((0 : Int), ((0 : Int), ((0 : Int), ((0 : Int), (([] : List Entry), (false, (([] : List UInt8), ()))))))))))) x2 = x2 - w_Rpc (x1.getD x3.toNat ((0 : Int), ((0 : Int), ((0 : Int), ((0 : Int), ((0 : Int), ((0 : Int), ((0 : Int), (([] : List Entry), (false, (([] : List UInt8), ()))))))))))) from szN_pos c, if_neg (by rw [decide_eq_true_eq]; exact c)]; exact sw_good w_Rpc_nn hp hlt ((0 : Int), ((0 : Int), ((0 : Int), ((0 : Int), ((0 : Int), ((0 : Int), ((0 : Int), (([] : List Entry), (false, (([] : List UInt8), ())))))))))) c
  · rw [if_neg (by simp [hlt])]; exact sw_end hp hlt
theorem eq (x0 : List Rpc) (x1 : Int) (hw : wf x0 x1) (hp : pre x0 x1 = true) : raw x0 x1 = some ((), (laws_szRpcS x0 x1, ())) := by
  have h1 : x0.length ≤ maxLen := hw.1.1
  simp only [pre, Bool.and_eq_true, decide_eq_true_eq] at hp
  have hM := maxLen_eq
  have hnn := sumW_nn w_Rpc_nn x0
  unfold raw
  rw [w64 (n := x1 - (x0.length : Int)) (by omega) (by omega)]
  by_cases c : x1 - (x0.length : Int) < 0
  · rw [if_pos (decide_eq_true c), show laws_szRpcS x0 x1 = -1 from szN_neg (by simp only [wL]; omega)]
  · rw [if_neg (by rw [decide_eq_true_eq]; exact c), if_pos (show pre5 _ = true from sw_start h1 (by omega) (by omega))]
    exact swFn_start x0 x1
end laws_szRpcS
def w_Peer (x : Peer) : Int := w_Hard x.2.1 + wL w_Bool x.2.2.2.1 + wL w_Int x.2.2.2.2.1 + wL w_Int x.2.2.2.2.2.1 + w_Keep x.2.2.2.2.2.2.2.1 + w_Disk x.2.2.2.2.2.2.2.2.1 + wL w_Rpc x.2.2.2.2.2.2.2.2.2.1
theorem w_Peer_nn (x : Peer) : 0 ≤ w_Peer x := by
  have n3 := wL_nn w_Bool_nn x.2.2.2.1
  have n4 := wL_nn w_Int_nn x.2.2.2.2.1
  have n5 := wL_nn w_Int_nn x.2.2.2.2.2.1
  have n9 := wL_nn w_Rpc_nn x.2.2.2.2.2.2.2.2.2.1
  have n1 := w_Hard_nn x.2.1
  have n7 := w_Keep_nn x.2.2.2.2.2.2.2.1
  have n8 := w_Disk_nn x.2.2.2.2.2.2.2.2.1
  simp only [w_Peer]; omega
noncomputable def laws_eqPeer (a b : Peer) : Bool := same a b
namespace laws_eqPeer
abbrev wf (x0 : (Int × ((Int × (Int × (Log × (((List Row) × ((List Maker) × ((List Group) × (Int × ((List Int) × ((List Answer) × Unit)))))) × Unit)))) × (Int × ((List Bool) × ((List Int) × ((List Int) × (Int × (((List Row) × ((List Maker) × ((List Group) × (Int × ((List Int) × ((List Answer) × Unit)))))) × (Disk × ((List (Int × (Int × (Int × (Int × (Int × (Int × (Int × ((List Entry) × (Bool × ((List UInt8) × Unit))))))))))) × Unit))))))))))) (x1 : (Int × ((Int × (Int × (Log × (((List Row) × ((List Maker) × ((List Group) × (Int × ((List Int) × ((List Answer) × Unit)))))) × Unit)))) × (Int × ((List Bool) × ((List Int) × ((List Int) × (Int × (((List Row) × ((List Maker) × ((List Group) × (Int × ((List Int) × ((List Answer) × Unit)))))) × (Disk × ((List (Int × (Int × (Int × (Int × (Int × (Int × (Int × ((List Entry) × (Bool × ((List UInt8) × Unit))))))))))) × Unit))))))))))) : Prop := wfA [(.val (.pair (.int .i64) (.pair (.pair (.int .i64) (.pair (.int .i64) (.pair (.pair (.int .i64) (.pair (.int .i64) (.pair (.sl 0 (.pair (.int .i64) (.pair (.pair (.int .i64) (.pair (.int .i64) (.pair (.int .i64) (.pair (.int .i64) (.pair (.int .i64) (.pair (.int .i64) (.pair .str (.pair .str .unit)))))))) .unit))) .unit))) (.pair (.pair (.sl 0 (.pair (.int .i64) (.pair (.int .i64) (.pair (.sl 0 (.pair (.int .i64) (.pair .str (.pair .str (.pair (.int .i64) (.pair (.int .i64) .unit)))))) .unit)))) (.pair (.sl 0 (.pair (.int .i64) (.pair (.int .i64) (.pair (.int .i64) (.pair (.int .i64) (.pair (.sl 0 (.pair (.int .i64) (.pair (.int .i64) .unit))) .unit)))))) (.pair (.sl 0 (.pair (.int .i64) (.pair (.sl 0 (.int .i64)) (.pair (.sl 0 (.int .i64)) (.pair (.sl 0 (.int .i64)) .unit))))) (.pair (.int .i64) (.pair (.sl 0 (.int .i64)) (.pair (.sl 0 (.pair (.int .i64) (.pair (.int .i64) (.pair .str (.pair .str .unit))))) .unit)))))) .unit)))) (.pair (.int .i64) (.pair (.sl 0 .bool) (.pair (.sl 0 (.int .i64)) (.pair (.sl 0 (.int .i64)) (.pair (.int .i64) (.pair (.pair (.sl 0 (.pair (.int .i64) (.pair (.int .i64) (.pair (.sl 0 (.pair (.int .i64) (.pair .str (.pair .str (.pair (.int .i64) (.pair (.int .i64) .unit)))))) .unit)))) (.pair (.sl 0 (.pair (.int .i64) (.pair (.int .i64) (.pair (.int .i64) (.pair (.int .i64) (.pair (.sl 0 (.pair (.int .i64) (.pair (.int .i64) .unit))) .unit)))))) (.pair (.sl 0 (.pair (.int .i64) (.pair (.sl 0 (.int .i64)) (.pair (.sl 0 (.int .i64)) (.pair (.sl 0 (.int .i64)) .unit))))) (.pair (.int .i64) (.pair (.sl 0 (.int .i64)) (.pair (.sl 0 (.pair (.int .i64) (.pair (.int .i64) (.pair .str (.pair .str .unit))))) .unit)))))) (.pair (.pair (.sl 0 (.int .u8)) (.pair (.int .i64) .unit)) (.pair (.sl 0 (.pair (.int .i64) (.pair (.int .i64) (.pair (.int .i64) (.pair (.int .i64) (.pair (.int .i64) (.pair (.int .i64) (.pair (.int .i64) (.pair (.sl 0 (.pair (.int .i64) (.pair (.pair (.int .i64) (.pair (.int .i64) (.pair (.int .i64) (.pair (.int .i64) (.pair (.int .i64) (.pair (.int .i64) (.pair .str (.pair .str .unit)))))))) .unit))) (.pair .bool (.pair .str .unit))))))))))) .unit)))))))))) .f), (.val (.pair (.int .i64) (.pair (.pair (.int .i64) (.pair (.int .i64) (.pair (.pair (.int .i64) (.pair (.int .i64) (.pair (.sl 0 (.pair (.int .i64) (.pair (.pair (.int .i64) (.pair (.int .i64) (.pair (.int .i64) (.pair (.int .i64) (.pair (.int .i64) (.pair (.int .i64) (.pair .str (.pair .str .unit)))))))) .unit))) .unit))) (.pair (.pair (.sl 0 (.pair (.int .i64) (.pair (.int .i64) (.pair (.sl 0 (.pair (.int .i64) (.pair .str (.pair .str (.pair (.int .i64) (.pair (.int .i64) .unit)))))) .unit)))) (.pair (.sl 0 (.pair (.int .i64) (.pair (.int .i64) (.pair (.int .i64) (.pair (.int .i64) (.pair (.sl 0 (.pair (.int .i64) (.pair (.int .i64) .unit))) .unit)))))) (.pair (.sl 0 (.pair (.int .i64) (.pair (.sl 0 (.int .i64)) (.pair (.sl 0 (.int .i64)) (.pair (.sl 0 (.int .i64)) .unit))))) (.pair (.int .i64) (.pair (.sl 0 (.int .i64)) (.pair (.sl 0 (.pair (.int .i64) (.pair (.int .i64) (.pair .str (.pair .str .unit))))) .unit)))))) .unit)))) (.pair (.int .i64) (.pair (.sl 0 .bool) (.pair (.sl 0 (.int .i64)) (.pair (.sl 0 (.int .i64)) (.pair (.int .i64) (.pair (.pair (.sl 0 (.pair (.int .i64) (.pair (.int .i64) (.pair (.sl 0 (.pair (.int .i64) (.pair .str (.pair .str (.pair (.int .i64) (.pair (.int .i64) .unit)))))) .unit)))) (.pair (.sl 0 (.pair (.int .i64) (.pair (.int .i64) (.pair (.int .i64) (.pair (.int .i64) (.pair (.sl 0 (.pair (.int .i64) (.pair (.int .i64) .unit))) .unit)))))) (.pair (.sl 0 (.pair (.int .i64) (.pair (.sl 0 (.int .i64)) (.pair (.sl 0 (.int .i64)) (.pair (.sl 0 (.int .i64)) .unit))))) (.pair (.int .i64) (.pair (.sl 0 (.int .i64)) (.pair (.sl 0 (.pair (.int .i64) (.pair (.int .i64) (.pair .str (.pair .str .unit))))) .unit)))))) (.pair (.pair (.sl 0 (.int .u8)) (.pair (.int .i64) .unit)) (.pair (.sl 0 (.pair (.int .i64) (.pair (.int .i64) (.pair (.int .i64) (.pair (.int .i64) (.pair (.int .i64) (.pair (.int .i64) (.pair (.int .i64) (.pair (.sl 0 (.pair (.int .i64) (.pair (.pair (.int .i64) (.pair (.int .i64) (.pair (.int .i64) (.pair (.int .i64) (.pair (.int .i64) (.pair (.int .i64) (.pair .str (.pair .str .unit)))))))) .unit))) (.pair .bool (.pair .str .unit))))))))))) .unit)))))))))) .f)] (x0, (x1, ()))
noncomputable def raw (x0 : (Int × ((Int × (Int × (Log × (((List Row) × ((List Maker) × ((List Group) × (Int × ((List Int) × ((List Answer) × Unit)))))) × Unit)))) × (Int × ((List Bool) × ((List Int) × ((List Int) × (Int × (((List Row) × ((List Maker) × ((List Group) × (Int × ((List Int) × ((List Answer) × Unit)))))) × (Disk × ((List (Int × (Int × (Int × (Int × (Int × (Int × (Int × ((List Entry) × (Bool × ((List UInt8) × Unit))))))))))) × Unit))))))))))) (x1 : (Int × ((Int × (Int × (Log × (((List Row) × ((List Maker) × ((List Group) × (Int × ((List Int) × ((List Answer) × Unit)))))) × Unit)))) × (Int × ((List Bool) × ((List Int) × ((List Int) × (Int × (((List Row) × ((List Maker) × ((List Group) × (Int × ((List Int) × ((List Answer) × Unit)))))) × (Disk × ((List (Int × (Int × (Int × (Int × (Int × (Int × (Int × ((List Entry) × (Bool × ((List UInt8) × Unit))))))))))) × Unit))))))))))) : Option (Unit × (Bool × Unit)) :=
 if (!(decide (x0.1 = x1.1))) = true then
  some ((), (false, ()))
 else
  letB (laws_eqHard x0.2.1 x1.2.1) fun v1 =>
  if (!v1) = true then
   some ((), (false, ()))
  else
   if (!(decide (x0.2.2.1 = x1.2.2.1))) = true then
    some ((), (false, ()))
   else
    letB (laws_eqBoolS x0.2.2.2.1 x1.2.2.2.1) fun v2 =>
    if (!v2) = true then
     some ((), (false, ()))
    else
     letB (laws_eqIntS x0.2.2.2.2.1 x1.2.2.2.2.1) fun v3 =>
     if (!v3) = true then
      some ((), (false, ()))
     else
      letB (laws_eqIntS x0.2.2.2.2.2.1 x1.2.2.2.2.2.1) fun v4 =>
      if (!v4) = true then
       some ((), (false, ()))
      else
       if (!(decide (x0.2.2.2.2.2.2.1 = x1.2.2.2.2.2.2.1))) = true then
        some ((), (false, ()))
       else
        letB (laws_eqKeep x0.2.2.2.2.2.2.2.1 x1.2.2.2.2.2.2.2.1) fun v5 =>
        if (!v5) = true then
         some ((), (false, ()))
        else
         letB (laws_eqDisk x0.2.2.2.2.2.2.2.2.1 x1.2.2.2.2.2.2.2.2.1) fun v6 =>
         if (!v6) = true then
          some ((), (false, ()))
         else
          letB (laws_eqRpcS x0.2.2.2.2.2.2.2.2.2.1 x1.2.2.2.2.2.2.2.2.2.1) fun v7 =>
          if (!v7) = true then
           some ((), (false, ()))
          else
           some ((), (true, ()))
theorem eq (x0 x1 : Peer) (_ : wf x0 x1) : raw x0 x1 = some ((), (laws_eqPeer x0 x1, ())) := by
  unfold raw laws_eqPeer
  try simp only [letB]
  by_cases c0 : x0.1 = x1.1
  case neg => rw [if_pos (by simp [c0]), same_false.2 (fun h => c0 (congrArg (fun z : Peer => z.1) h))]
  rw [if_neg (by simp [c0])]
  by_cases c1 : x0.2.1 = x1.2.1
  case neg => rw [if_pos (by rw [laws_eqHard, same_false.2 c1]; rfl), same_false.2 (fun h => c1 (congrArg (fun z : Peer => z.2.1) h))]
  rw [if_neg (by rw [laws_eqHard, same_true.2 c1]; simp)]
  by_cases c2 : x0.2.2.1 = x1.2.2.1
  case neg => rw [if_pos (by simp [c2]), same_false.2 (fun h => c2 (congrArg (fun z : Peer => z.2.2.1) h))]
  rw [if_neg (by simp [c2])]
  by_cases c3 : x0.2.2.2.1 = x1.2.2.2.1
  case neg => rw [if_pos (by rw [laws_eqBoolS, same_false.2 c3]; rfl), same_false.2 (fun h => c3 (congrArg (fun z : Peer => z.2.2.2.1) h))]
  rw [if_neg (by rw [laws_eqBoolS, same_true.2 c3]; simp)]
  by_cases c4 : x0.2.2.2.2.1 = x1.2.2.2.2.1
  case neg => rw [if_pos (by rw [laws_eqIntS, same_false.2 c4]; rfl), same_false.2 (fun h => c4 (congrArg (fun z : Peer => z.2.2.2.2.1) h))]
  rw [if_neg (by rw [laws_eqIntS, same_true.2 c4]; simp)]
  by_cases c5 : x0.2.2.2.2.2.1 = x1.2.2.2.2.2.1
  case neg => rw [if_pos (by rw [laws_eqIntS, same_false.2 c5]; rfl), same_false.2 (fun h => c5 (congrArg (fun z : Peer => z.2.2.2.2.2.1) h))]
  rw [if_neg (by rw [laws_eqIntS, same_true.2 c5]; simp)]
  by_cases c6 : x0.2.2.2.2.2.2.1 = x1.2.2.2.2.2.2.1
  case neg => rw [if_pos (by simp [c6]), same_false.2 (fun h => c6 (congrArg (fun z : Peer => z.2.2.2.2.2.2.1) h))]
  rw [if_neg (by simp [c6])]
  by_cases c7 : x0.2.2.2.2.2.2.2.1 = x1.2.2.2.2.2.2.2.1
  case neg => rw [if_pos (by rw [laws_eqKeep, same_false.2 c7]; rfl), same_false.2 (fun h => c7 (congrArg (fun z : Peer => z.2.2.2.2.2.2.2.1) h))]
  rw [if_neg (by rw [laws_eqKeep, same_true.2 c7]; simp)]
  by_cases c8 : x0.2.2.2.2.2.2.2.2.1 = x1.2.2.2.2.2.2.2.2.1
  case neg => rw [if_pos (by rw [laws_eqDisk, same_false.2 c8]; rfl), same_false.2 (fun h => c8 (congrArg (fun z : Peer => z.2.2.2.2.2.2.2.2.1) h))]
  rw [if_neg (by rw [laws_eqDisk, same_true.2 c8]; simp)]
  by_cases c9 : x0.2.2.2.2.2.2.2.2.2.1 = x1.2.2.2.2.2.2.2.2.2.1
  case neg => rw [if_pos (by rw [laws_eqRpcS, same_false.2 c9]; rfl), same_false.2 (fun h => c9 (congrArg (fun z : Peer => z.2.2.2.2.2.2.2.2.2.1) h))]
  rw [if_neg (by rw [laws_eqRpcS, same_true.2 c9]; simp)]
  rw [same_true.2 (Prod.ext c0 (Prod.ext c1 (Prod.ext c2 (Prod.ext c3 (Prod.ext c4 (Prod.ext c5 (Prod.ext c6 (Prod.ext c7 (Prod.ext c8 (Prod.ext c9 rfl))))))))))]
end laws_eqPeer
def laws_toPeer (x : Peer) : Peer := x
namespace laws_toPeer
def pre (x : Peer) : Bool := laws_toHard.pre x.2.1 && laws_toBoolS.pre x.2.2.2.1 && laws_toIntS.pre x.2.2.2.2.1 && laws_toIntS.pre x.2.2.2.2.2.1 && laws_toKeep.pre x.2.2.2.2.2.2.2.1 && laws_toDisk.pre x.2.2.2.2.2.2.2.2.1 && laws_toRpcS.pre x.2.2.2.2.2.2.2.2.2.1
abbrev wf (x0 : (Int × ((Int × (Int × (Log × (((List Row) × ((List Maker) × ((List Group) × (Int × ((List Int) × ((List Answer) × Unit)))))) × Unit)))) × (Int × ((List Bool) × ((List Int) × ((List Int) × (Int × (((List Row) × ((List Maker) × ((List Group) × (Int × ((List Int) × ((List Answer) × Unit)))))) × (Disk × ((List (Int × (Int × (Int × (Int × (Int × (Int × (Int × ((List Entry) × (Bool × ((List UInt8) × Unit))))))))))) × Unit))))))))))) : Prop := wfA [(.val (.pair (.int .i64) (.pair (.pair (.int .i64) (.pair (.int .i64) (.pair (.pair (.int .i64) (.pair (.int .i64) (.pair (.sl 0 (.pair (.int .i64) (.pair (.pair (.int .i64) (.pair (.int .i64) (.pair (.int .i64) (.pair (.int .i64) (.pair (.int .i64) (.pair (.int .i64) (.pair .str (.pair .str .unit)))))))) .unit))) .unit))) (.pair (.pair (.sl 0 (.pair (.int .i64) (.pair (.int .i64) (.pair (.sl 0 (.pair (.int .i64) (.pair .str (.pair .str (.pair (.int .i64) (.pair (.int .i64) .unit)))))) .unit)))) (.pair (.sl 0 (.pair (.int .i64) (.pair (.int .i64) (.pair (.int .i64) (.pair (.int .i64) (.pair (.sl 0 (.pair (.int .i64) (.pair (.int .i64) .unit))) .unit)))))) (.pair (.sl 0 (.pair (.int .i64) (.pair (.sl 0 (.int .i64)) (.pair (.sl 0 (.int .i64)) (.pair (.sl 0 (.int .i64)) .unit))))) (.pair (.int .i64) (.pair (.sl 0 (.int .i64)) (.pair (.sl 0 (.pair (.int .i64) (.pair (.int .i64) (.pair .str (.pair .str .unit))))) .unit)))))) .unit)))) (.pair (.int .i64) (.pair (.sl 0 .bool) (.pair (.sl 0 (.int .i64)) (.pair (.sl 0 (.int .i64)) (.pair (.int .i64) (.pair (.pair (.sl 0 (.pair (.int .i64) (.pair (.int .i64) (.pair (.sl 0 (.pair (.int .i64) (.pair .str (.pair .str (.pair (.int .i64) (.pair (.int .i64) .unit)))))) .unit)))) (.pair (.sl 0 (.pair (.int .i64) (.pair (.int .i64) (.pair (.int .i64) (.pair (.int .i64) (.pair (.sl 0 (.pair (.int .i64) (.pair (.int .i64) .unit))) .unit)))))) (.pair (.sl 0 (.pair (.int .i64) (.pair (.sl 0 (.int .i64)) (.pair (.sl 0 (.int .i64)) (.pair (.sl 0 (.int .i64)) .unit))))) (.pair (.int .i64) (.pair (.sl 0 (.int .i64)) (.pair (.sl 0 (.pair (.int .i64) (.pair (.int .i64) (.pair .str (.pair .str .unit))))) .unit)))))) (.pair (.pair (.sl 0 (.int .u8)) (.pair (.int .i64) .unit)) (.pair (.sl 0 (.pair (.int .i64) (.pair (.int .i64) (.pair (.int .i64) (.pair (.int .i64) (.pair (.int .i64) (.pair (.int .i64) (.pair (.int .i64) (.pair (.sl 0 (.pair (.int .i64) (.pair (.pair (.int .i64) (.pair (.int .i64) (.pair (.int .i64) (.pair (.int .i64) (.pair (.int .i64) (.pair (.int .i64) (.pair .str (.pair .str .unit)))))))) .unit))) (.pair .bool (.pair .str .unit))))))))))) .unit)))))))))) .f)] (x0, ())
noncomputable def raw (x0 : (Int × ((Int × (Int × (Log × (((List Row) × ((List Maker) × ((List Group) × (Int × ((List Int) × ((List Answer) × Unit)))))) × Unit)))) × (Int × ((List Bool) × ((List Int) × ((List Int) × (Int × (((List Row) × ((List Maker) × ((List Group) × (Int × ((List Int) × ((List Answer) × Unit)))))) × (Disk × ((List (Int × (Int × (Int × (Int × (Int × (Int × (Int × ((List Entry) × (Bool × ((List UInt8) × Unit))))))))))) × Unit))))))))))) : Option (Unit × ((Int × ((Int × (Int × (Log × (((List Row) × ((List Maker) × ((List Group) × (Int × ((List Int) × ((List Answer) × Unit)))))) × Unit)))) × (Int × ((List Bool) × ((List Int) × ((List Int) × (Int × (((List Row) × ((List Maker) × ((List Group) × (Int × ((List Int) × ((List Answer) × Unit)))))) × (Disk × ((List (Int × (Int × (Int × (Int × (Int × (Int × (Int × ((List Entry) × (Bool × ((List UInt8) × Unit))))))))))) × Unit)))))))))) × Unit)) :=
 if (laws_toHard.pre x0.2.1) = true then
  if (laws_toBoolS.pre x0.2.2.2.1) = true then
   if (laws_toIntS.pre x0.2.2.2.2.1) = true then
    if (laws_toIntS.pre x0.2.2.2.2.2.1) = true then
     if (laws_toKeep.pre x0.2.2.2.2.2.2.2.1) = true then
      if (laws_toDisk.pre x0.2.2.2.2.2.2.2.2.1) = true then
       if (laws_toRpcS.pre x0.2.2.2.2.2.2.2.2.2.1) = true then
        letB (laws_toHard x0.2.1) fun v1 =>
        letB (laws_toBoolS x0.2.2.2.1) fun v2 =>
        letB (laws_toIntS x0.2.2.2.2.1) fun v3 =>
        letB (laws_toIntS x0.2.2.2.2.2.1) fun v4 =>
        letB (laws_toKeep x0.2.2.2.2.2.2.2.1) fun v5 =>
        letB (laws_toDisk x0.2.2.2.2.2.2.2.2.1) fun v6 =>
        letB (laws_toRpcS x0.2.2.2.2.2.2.2.2.2.1) fun v7 =>
        some ((), ((x0.1, (v1, (x0.2.2.1, (v2, (v3, (v4, (x0.2.2.2.2.2.2.1, (v5, (v6, (v7, ())))))))))), ()))
       else
        none
      else
       none
     else
      none
    else
     none
   else
    none
  else
   none
 else
  none
theorem eq (x0 : Peer) (_ : wf x0) (hp : pre x0 = true) : raw x0 = some ((), (laws_toPeer x0, ())) := by
  simp only [pre, Bool.and_eq_true] at hp
  unfold raw
  try simp only [letB]
  rw [if_pos hp.1.1.1.1.1.1, if_pos hp.1.1.1.1.1.2, if_pos hp.1.1.1.1.2, if_pos hp.1.1.1.2, if_pos hp.1.1.2, if_pos hp.1.2, if_pos hp.2]
  rfl
end laws_toPeer
theorem toPeer_pre {x : Peer} (h : w_Peer x ≤ 16777216) : laws_toPeer.pre x = true := by
  simp only [w_Peer] at h
  have n1 := w_Hard_nn x.2.1
  have n3 := wL_nn w_Bool_nn x.2.2.2.1
  have n4 := wL_nn w_Int_nn x.2.2.2.2.1
  have n5 := wL_nn w_Int_nn x.2.2.2.2.2.1
  have n7 := w_Keep_nn x.2.2.2.2.2.2.2.1
  have n8 := w_Disk_nn x.2.2.2.2.2.2.2.2.1
  have n9 := wL_nn w_Rpc_nn x.2.2.2.2.2.2.2.2.2.1
  simp only [laws_toPeer.pre, Bool.and_eq_true]
  exact ⟨⟨⟨⟨⟨⟨toHard_pre (by omega), toBoolS_pre (by omega)⟩, toIntS_pre (by omega)⟩, toIntS_pre (by omega)⟩, toKeep_pre (by omega)⟩, toDisk_pre (by omega)⟩, toRpcS_pre (by omega)⟩
def laws_szPeer (x : Peer) (l : Int) : Int := szN (w_Peer x) l
namespace laws_szPeer
def pre (_ : Peer) (l : Int) : Bool := decide (0 ≤ l) && decide (l ≤ maxLen)
abbrev wf (x0 : (Int × ((Int × (Int × (Log × (((List Row) × ((List Maker) × ((List Group) × (Int × ((List Int) × ((List Answer) × Unit)))))) × Unit)))) × (Int × ((List Bool) × ((List Int) × ((List Int) × (Int × (((List Row) × ((List Maker) × ((List Group) × (Int × ((List Int) × ((List Answer) × Unit)))))) × (Disk × ((List (Int × (Int × (Int × (Int × (Int × (Int × (Int × ((List Entry) × (Bool × ((List UInt8) × Unit))))))))))) × Unit))))))))))) (x1 : Int) : Prop := wfA [(.val (.pair (.int .i64) (.pair (.pair (.int .i64) (.pair (.int .i64) (.pair (.pair (.int .i64) (.pair (.int .i64) (.pair (.sl 0 (.pair (.int .i64) (.pair (.pair (.int .i64) (.pair (.int .i64) (.pair (.int .i64) (.pair (.int .i64) (.pair (.int .i64) (.pair (.int .i64) (.pair .str (.pair .str .unit)))))))) .unit))) .unit))) (.pair (.pair (.sl 0 (.pair (.int .i64) (.pair (.int .i64) (.pair (.sl 0 (.pair (.int .i64) (.pair .str (.pair .str (.pair (.int .i64) (.pair (.int .i64) .unit)))))) .unit)))) (.pair (.sl 0 (.pair (.int .i64) (.pair (.int .i64) (.pair (.int .i64) (.pair (.int .i64) (.pair (.sl 0 (.pair (.int .i64) (.pair (.int .i64) .unit))) .unit)))))) (.pair (.sl 0 (.pair (.int .i64) (.pair (.sl 0 (.int .i64)) (.pair (.sl 0 (.int .i64)) (.pair (.sl 0 (.int .i64)) .unit))))) (.pair (.int .i64) (.pair (.sl 0 (.int .i64)) (.pair (.sl 0 (.pair (.int .i64) (.pair (.int .i64) (.pair .str (.pair .str .unit))))) .unit)))))) .unit)))) (.pair (.int .i64) (.pair (.sl 0 .bool) (.pair (.sl 0 (.int .i64)) (.pair (.sl 0 (.int .i64)) (.pair (.int .i64) (.pair (.pair (.sl 0 (.pair (.int .i64) (.pair (.int .i64) (.pair (.sl 0 (.pair (.int .i64) (.pair .str (.pair .str (.pair (.int .i64) (.pair (.int .i64) .unit)))))) .unit)))) (.pair (.sl 0 (.pair (.int .i64) (.pair (.int .i64) (.pair (.int .i64) (.pair (.int .i64) (.pair (.sl 0 (.pair (.int .i64) (.pair (.int .i64) .unit))) .unit)))))) (.pair (.sl 0 (.pair (.int .i64) (.pair (.sl 0 (.int .i64)) (.pair (.sl 0 (.int .i64)) (.pair (.sl 0 (.int .i64)) .unit))))) (.pair (.int .i64) (.pair (.sl 0 (.int .i64)) (.pair (.sl 0 (.pair (.int .i64) (.pair (.int .i64) (.pair .str (.pair .str .unit))))) .unit)))))) (.pair (.pair (.sl 0 (.int .u8)) (.pair (.int .i64) .unit)) (.pair (.sl 0 (.pair (.int .i64) (.pair (.int .i64) (.pair (.int .i64) (.pair (.int .i64) (.pair (.int .i64) (.pair (.int .i64) (.pair (.int .i64) (.pair (.sl 0 (.pair (.int .i64) (.pair (.pair (.int .i64) (.pair (.int .i64) (.pair (.int .i64) (.pair (.int .i64) (.pair (.int .i64) (.pair (.int .i64) (.pair .str (.pair .str .unit)))))))) .unit))) (.pair .bool (.pair .str .unit))))))))))) .unit)))))))))) .f), (.val (.int .i64) .f)] (x0, (x1, ()))
noncomputable def raw (x0 : (Int × ((Int × (Int × (Log × (((List Row) × ((List Maker) × ((List Group) × (Int × ((List Int) × ((List Answer) × Unit)))))) × Unit)))) × (Int × ((List Bool) × ((List Int) × ((List Int) × (Int × (((List Row) × ((List Maker) × ((List Group) × (Int × ((List Int) × ((List Answer) × Unit)))))) × (Disk × ((List (Int × (Int × (Int × (Int × (Int × (Int × (Int × ((List Entry) × (Bool × ((List UInt8) × Unit))))))))))) × Unit))))))))))) (x1 : Int) : Option (Unit × (Int × Unit)) :=
 if (laws_szHard.pre x0.2.1 x1) = true then
  letB (laws_szHard x0.2.1 x1) fun v1 =>
  if (decide (v1 < (0 : Int))) = true then
   some ((), ((-1 : Int), ()))
  else
   if (laws_szBoolS.pre x0.2.2.2.1 v1) = true then
    letB (laws_szBoolS x0.2.2.2.1 v1) fun v2 =>
    if (decide (v2 < (0 : Int))) = true then
     some ((), ((-1 : Int), ()))
    else
     if (laws_szIntS.pre x0.2.2.2.2.1 v2) = true then
      letB (laws_szIntS x0.2.2.2.2.1 v2) fun v3 =>
      if (decide (v3 < (0 : Int))) = true then
       some ((), ((-1 : Int), ()))
      else
       if (laws_szIntS.pre x0.2.2.2.2.2.1 v3) = true then
        letB (laws_szIntS x0.2.2.2.2.2.1 v3) fun v4 =>
        if (decide (v4 < (0 : Int))) = true then
         some ((), ((-1 : Int), ()))
        else
         if (laws_szKeep.pre x0.2.2.2.2.2.2.2.1 v4) = true then
          letB (laws_szKeep x0.2.2.2.2.2.2.2.1 v4) fun v5 =>
          if (decide (v5 < (0 : Int))) = true then
           some ((), ((-1 : Int), ()))
          else
           if (laws_szDisk.pre x0.2.2.2.2.2.2.2.2.1 v5) = true then
            letB (laws_szDisk x0.2.2.2.2.2.2.2.2.1 v5) fun v6 =>
            if (decide (v6 < (0 : Int))) = true then
             some ((), ((-1 : Int), ()))
            else
             if (laws_szRpcS.pre x0.2.2.2.2.2.2.2.2.2.1 v6) = true then
              letB (laws_szRpcS x0.2.2.2.2.2.2.2.2.2.1 v6) fun v7 =>
              if (decide (v7 < (0 : Int))) = true then
               some ((), ((-1 : Int), ()))
              else
               some ((), (v7, ()))
             else
              none
           else
            none
         else
          none
       else
        none
     else
      none
   else
    none
 else
  none
theorem eq (x0 : Peer) (x1 : Int) (hw : wf x0 x1) (hp : pre x0 x1 = true) : raw x0 x1 = some ((), (laws_szPeer x0 x1, ())) := by
  simp only [pre, Bool.and_eq_true, decide_eq_true_eq] at hp
  have hM := maxLen_eq
  have t1 := w_Hard_nn x0.2.1
  have t3 := wL_nn w_Bool_nn x0.2.2.2.1
  have t4 := wL_nn w_Int_nn x0.2.2.2.2.1
  have t5 := wL_nn w_Int_nn x0.2.2.2.2.2.1
  have t7 := w_Keep_nn x0.2.2.2.2.2.2.2.1
  have t8 := w_Disk_nn x0.2.2.2.2.2.2.2.2.1
  have t9 := wL_nn w_Rpc_nn x0.2.2.2.2.2.2.2.2.2.1
  unfold raw
  try simp only [letB]
  rw [if_pos (show laws_szHard.pre _ _ = true by simp only [laws_szHard.pre, Bool.and_eq_true, decide_eq_true_eq]; omega)]
  by_cases c1 : x1 - w_Hard x0.2.1 < 0
  · rw [show laws_szHard x0.2.1 (x1) = -1 from szN_neg c1, if_pos (by decide), show laws_szPeer x0 x1 = -1 from szN_neg (by simp only [w_Peer]; omega)]
  rw [show laws_szHard x0.2.1 (x1) = x1 - w_Hard x0.2.1 from szN_pos c1, if_neg (by rw [decide_eq_true_eq]; exact c1)]
  rw [if_pos (show laws_szBoolS.pre _ _ = true by simp only [laws_szBoolS.pre, Bool.and_eq_true, decide_eq_true_eq]; omega)]
  by_cases c3 : x1 - w_Hard x0.2.1 - wL w_Bool x0.2.2.2.1 < 0
  · rw [show laws_szBoolS x0.2.2.2.1 (x1 - w_Hard x0.2.1) = -1 from szN_neg c3, if_pos (by decide), show laws_szPeer x0 x1 = -1 from szN_neg (by simp only [w_Peer]; omega)]
  rw [show laws_szBoolS x0.2.2.2.1 (x1 - w_Hard x0.2.1) = x1 - w_Hard x0.2.1 - wL w_Bool x0.2.2.2.1 from szN_pos c3, if_neg (by rw [decide_eq_true_eq]; exact c3)]
  rw [if_pos (show laws_szIntS.pre _ _ = true by simp only [laws_szIntS.pre, Bool.and_eq_true, decide_eq_true_eq]; omega)]
  by_cases c4 : x1 - w_Hard x0.2.1 - wL w_Bool x0.2.2.2.1 - wL w_Int x0.2.2.2.2.1 < 0
  · rw [show laws_szIntS x0.2.2.2.2.1 (x1 - w_Hard x0.2.1 - wL w_Bool x0.2.2.2.1) = -1 from szN_neg c4, if_pos (by decide), show laws_szPeer x0 x1 = -1 from szN_neg (by simp only [w_Peer]; omega)]
  rw [show laws_szIntS x0.2.2.2.2.1 (x1 - w_Hard x0.2.1 - wL w_Bool x0.2.2.2.1) = x1 - w_Hard x0.2.1 - wL w_Bool x0.2.2.2.1 - wL w_Int x0.2.2.2.2.1 from szN_pos c4, if_neg (by rw [decide_eq_true_eq]; exact c4)]
  rw [if_pos (show laws_szIntS.pre _ _ = true by simp only [laws_szIntS.pre, Bool.and_eq_true, decide_eq_true_eq]; omega)]
  by_cases c5 : x1 - w_Hard x0.2.1 - wL w_Bool x0.2.2.2.1 - wL w_Int x0.2.2.2.2.1 - wL w_Int x0.2.2.2.2.2.1 < 0
  · rw [show laws_szIntS x0.2.2.2.2.2.1 (x1 - w_Hard x0.2.1 - wL w_Bool x0.2.2.2.1 - wL w_Int x0.2.2.2.2.1) = -1 from szN_neg c5, if_pos (by decide), show laws_szPeer x0 x1 = -1 from szN_neg (by simp only [w_Peer]; omega)]
  rw [show laws_szIntS x0.2.2.2.2.2.1 (x1 - w_Hard x0.2.1 - wL w_Bool x0.2.2.2.1 - wL w_Int x0.2.2.2.2.1) = x1 - w_Hard x0.2.1 - wL w_Bool x0.2.2.2.1 - wL w_Int x0.2.2.2.2.1 - wL w_Int x0.2.2.2.2.2.1 from szN_pos c5, if_neg (by rw [decide_eq_true_eq]; exact c5)]
  rw [if_pos (show laws_szKeep.pre _ _ = true by simp only [laws_szKeep.pre, Bool.and_eq_true, decide_eq_true_eq]; omega)]
  by_cases c7 : x1 - w_Hard x0.2.1 - wL w_Bool x0.2.2.2.1 - wL w_Int x0.2.2.2.2.1 - wL w_Int x0.2.2.2.2.2.1 - w_Keep x0.2.2.2.2.2.2.2.1 < 0
  · rw [show laws_szKeep x0.2.2.2.2.2.2.2.1 (x1 - w_Hard x0.2.1 - wL w_Bool x0.2.2.2.1 - wL w_Int x0.2.2.2.2.1 - wL w_Int x0.2.2.2.2.2.1) = -1 from szN_neg c7, if_pos (by decide), show laws_szPeer x0 x1 = -1 from szN_neg (by simp only [w_Peer]; omega)]
  rw [show laws_szKeep x0.2.2.2.2.2.2.2.1 (x1 - w_Hard x0.2.1 - wL w_Bool x0.2.2.2.1 - wL w_Int x0.2.2.2.2.1 - wL w_Int x0.2.2.2.2.2.1) = x1 - w_Hard x0.2.1 - wL w_Bool x0.2.2.2.1 - wL w_Int x0.2.2.2.2.1 - wL w_Int x0.2.2.2.2.2.1 - w_Keep x0.2.2.2.2.2.2.2.1 from szN_pos c7, if_neg (by rw [decide_eq_true_eq]; exact c7)]
  rw [if_pos (show laws_szDisk.pre _ _ = true by simp only [laws_szDisk.pre, Bool.and_eq_true, decide_eq_true_eq]; omega)]
  by_cases c8 : x1 - w_Hard x0.2.1 - wL w_Bool x0.2.2.2.1 - wL w_Int x0.2.2.2.2.1 - wL w_Int x0.2.2.2.2.2.1 - w_Keep x0.2.2.2.2.2.2.2.1 - w_Disk x0.2.2.2.2.2.2.2.2.1 < 0
  · rw [show laws_szDisk x0.2.2.2.2.2.2.2.2.1 (x1 - w_Hard x0.2.1 - wL w_Bool x0.2.2.2.1 - wL w_Int x0.2.2.2.2.1 - wL w_Int x0.2.2.2.2.2.1 - w_Keep x0.2.2.2.2.2.2.2.1) = -1 from szN_neg c8, if_pos (by decide), show laws_szPeer x0 x1 = -1 from szN_neg (by simp only [w_Peer]; omega)]
  rw [show laws_szDisk x0.2.2.2.2.2.2.2.2.1 (x1 - w_Hard x0.2.1 - wL w_Bool x0.2.2.2.1 - wL w_Int x0.2.2.2.2.1 - wL w_Int x0.2.2.2.2.2.1 - w_Keep x0.2.2.2.2.2.2.2.1) = x1 - w_Hard x0.2.1 - wL w_Bool x0.2.2.2.1 - wL w_Int x0.2.2.2.2.1 - wL w_Int x0.2.2.2.2.2.1 - w_Keep x0.2.2.2.2.2.2.2.1 - w_Disk x0.2.2.2.2.2.2.2.2.1 from szN_pos c8, if_neg (by rw [decide_eq_true_eq]; exact c8)]
  rw [if_pos (show laws_szRpcS.pre _ _ = true by simp only [laws_szRpcS.pre, Bool.and_eq_true, decide_eq_true_eq]; omega)]
  by_cases c9 : x1 - w_Hard x0.2.1 - wL w_Bool x0.2.2.2.1 - wL w_Int x0.2.2.2.2.1 - wL w_Int x0.2.2.2.2.2.1 - w_Keep x0.2.2.2.2.2.2.2.1 - w_Disk x0.2.2.2.2.2.2.2.2.1 - wL w_Rpc x0.2.2.2.2.2.2.2.2.2.1 < 0
  · rw [show laws_szRpcS x0.2.2.2.2.2.2.2.2.2.1 (x1 - w_Hard x0.2.1 - wL w_Bool x0.2.2.2.1 - wL w_Int x0.2.2.2.2.1 - wL w_Int x0.2.2.2.2.2.1 - w_Keep x0.2.2.2.2.2.2.2.1 - w_Disk x0.2.2.2.2.2.2.2.2.1) = -1 from szN_neg c9, if_pos (by decide), show laws_szPeer x0 x1 = -1 from szN_neg (by simp only [w_Peer]; omega)]
  rw [show laws_szRpcS x0.2.2.2.2.2.2.2.2.2.1 (x1 - w_Hard x0.2.1 - wL w_Bool x0.2.2.2.1 - wL w_Int x0.2.2.2.2.1 - wL w_Int x0.2.2.2.2.2.1 - w_Keep x0.2.2.2.2.2.2.2.1 - w_Disk x0.2.2.2.2.2.2.2.2.1) = x1 - w_Hard x0.2.1 - wL w_Bool x0.2.2.2.1 - wL w_Int x0.2.2.2.2.1 - wL w_Int x0.2.2.2.2.2.1 - w_Keep x0.2.2.2.2.2.2.2.1 - w_Disk x0.2.2.2.2.2.2.2.2.1 - wL w_Rpc x0.2.2.2.2.2.2.2.2.2.1 from szN_pos c9, if_neg (by rw [decide_eq_true_eq]; exact c9)]
  rw [show laws_szPeer x0 x1 = x1 - w_Hard x0.2.1 - wL w_Bool x0.2.2.2.1 - wL w_Int x0.2.2.2.2.1 - wL w_Int x0.2.2.2.2.2.1 - w_Keep x0.2.2.2.2.2.2.2.1 - w_Disk x0.2.2.2.2.2.2.2.2.1 - wL w_Rpc x0.2.2.2.2.2.2.2.2.2.1 from by rw [laws_szPeer, szN_pos (by simp only [w_Peer]; omega)]; simp only [w_Peer]; omega]
end laws_szPeer
noncomputable def laws_eqPeerS (a b : List Peer) : Bool := same a b
namespace laws_eqPeerS
def pre4 := eqPre (α := Peer)
noncomputable def fn4 := eqFn (α := Peer)
def mu4 := eqMu (α := Peer)
noncomputable def raw4 (x1 : (List (Int × ((Int × (Int × (Log × (((List Row) × ((List Maker) × ((List Group) × (Int × ((List Int) × ((List Answer) × Unit)))))) × Unit)))) × (Int × ((List Bool) × ((List Int) × ((List Int) × (Int × (((List Row) × ((List Maker) × ((List Group) × (Int × ((List Int) × ((List Answer) × Unit)))))) × (Disk × ((List (Int × (Int × (Int × (Int × (Int × (Int × (Int × ((List Entry) × (Bool × ((List UInt8) × Unit))))))))))) × Unit)))))))))))) (x2 : (List (Int × ((Int × (Int × (Log × (((List Row) × ((List Maker) × ((List Group) × (Int × ((List Int) × ((List Answer) × Unit)))))) × Unit)))) × (Int × ((List Bool) × ((List Int) × ((List Int) × (Int × (((List Row) × ((List Maker) × ((List Group) × (Int × ((List Int) × ((List Answer) × Unit)))))) × (Disk × ((List (Int × (Int × (Int × (Int × (Int × (Int × (Int × ((List Entry) × (Bool × ((List UInt8) × Unit))))))))))) × Unit)))))))))))) (x3 : Int) : Option (((List (Int × ((Int × (Int × (Log × (((List Row) × ((List Maker) × ((List Group) × (Int × ((List Int) × ((List Answer) × Unit)))))) × Unit)))) × (Int × ((List Bool) × ((List Int) × ((List Int) × (Int × (((List Row) × ((List Maker) × ((List Group) × (Int × ((List Int) × ((List Answer) × Unit)))))) × (Disk × ((List (Int × (Int × (Int × (Int × (Int × (Int × (Int × ((List Entry) × (Bool × ((List UInt8) × Unit))))))))))) × Unit))))))))))) × ((List (Int × ((Int × (Int × (Log × (((List Row) × ((List Maker) × ((List Group) × (Int × ((List Int) × ((List Answer) × Unit)))))) × Unit)))) × (Int × ((List Bool) × ((List Int) × ((List Int) × (Int × (((List Row) × ((List Maker) × ((List Group) × (Int × ((List Int) × ((List Answer) × Unit)))))) × (Disk × ((List (Int × (Int × (Int × (Int × (Int × (Int × (Int × ((List Entry) × (Bool × ((List UInt8) × Unit))))))))))) × Unit))))))))))) × (Int × Unit))) ⊕ ((Bool × Unit) ⊕ Unit)) :=
 if (decide (x3 < ((List.length x1 : Nat) : Int))) = true then
  if (decide ((0 : Int) ≤ x3)) = true then
   if (decide (x3 < ((List.length x1 : Nat) : Int))) = true then
    if (decide ((0 : Int) ≤ x3)) = true then
     if (decide (x3 < ((List.length x2 : Nat) : Int))) = true then
      letB (laws_eqPeer (List.getD x1 (Int.toNat x3) ((0 : Int), (((0 : Int), ((0 : Int), (((0 : Int), ((0 : Int), (([] : List Entry), ()))), ((([] : List Row), (([] : List Maker), (([] : List Group), ((0 : Int), (([] : List Int), (([] : List Answer), ())))))), ())))), ((0 : Int), (([] : List Bool), (([] : List Int), (([] : List Int), ((0 : Int), ((([] : List Row), (([] : List Maker), (([] : List Group), ((0 : Int), (([] : List Int), (([] : List Answer), ())))))), ((([] : List Int), ((0 : Int), ())), (([] : List (Int × (Int × (Int × (Int × (Int × (Int × (Int × ((List Entry) × (Bool × ((List UInt8) × Unit))))))))))), ()))))))))))) (List.getD x2 (Int.toNat x3) ((0 : Int), (((0 : Int), ((0 : Int), (((0 : Int), ((0 : Int), (([] : List Entry), ()))), ((([] : List Row), (([] : List Maker), (([] : List Group), ((0 : Int), (([] : List Int), (([] : List Answer), ())))))), ())))), ((0 : Int), (([] : List Bool), (([] : List Int), (([] : List Int), ((0 : Int), ((([] : List Row), (([] : List Maker), (([] : List Group), ((0 : Int), (([] : List Int), (([] : List Answer), ())))))), ((([] : List Int), ((0 : Int), ())), (([] : List (Int × (Int × (Int × (Int × (Int × (Int × (Int × ((List Entry) × (Bool × ((List UInt8) × Unit))))))))))), ())))))))))))) fun v1 =>
      if (!v1) = true then
       some (.inr (.inl (false, ())))
      else
       some (.inl (x1, (x2, ((IntKind.wrap .i64 (x3 + (1 : Int))), ()))))
     else
      none
    else
     none
   else
    none
  else
   none
 else
  some (.inr (.inr ()))
abbrev wf (x0 : (List (Int × ((Int × (Int × (Log × (((List Row) × ((List Maker) × ((List Group) × (Int × ((List Int) × ((List Answer) × Unit)))))) × Unit)))) × (Int × ((List Bool) × ((List Int) × ((List Int) × (Int × (((List Row) × ((List Maker) × ((List Group) × (Int × ((List Int) × ((List Answer) × Unit)))))) × (Disk × ((List (Int × (Int × (Int × (Int × (Int × (Int × (Int × ((List Entry) × (Bool × ((List UInt8) × Unit))))))))))) × Unit)))))))))))) (x1 : (List (Int × ((Int × (Int × (Log × (((List Row) × ((List Maker) × ((List Group) × (Int × ((List Int) × ((List Answer) × Unit)))))) × Unit)))) × (Int × ((List Bool) × ((List Int) × ((List Int) × (Int × (((List Row) × ((List Maker) × ((List Group) × (Int × ((List Int) × ((List Answer) × Unit)))))) × (Disk × ((List (Int × (Int × (Int × (Int × (Int × (Int × (Int × ((List Entry) × (Bool × ((List UInt8) × Unit))))))))))) × Unit)))))))))))) : Prop := wfA [(.val (.sl 0 (.pair (.int .i64) (.pair (.pair (.int .i64) (.pair (.int .i64) (.pair (.pair (.int .i64) (.pair (.int .i64) (.pair (.sl 0 (.pair (.int .i64) (.pair (.pair (.int .i64) (.pair (.int .i64) (.pair (.int .i64) (.pair (.int .i64) (.pair (.int .i64) (.pair (.int .i64) (.pair .str (.pair .str .unit)))))))) .unit))) .unit))) (.pair (.pair (.sl 0 (.pair (.int .i64) (.pair (.int .i64) (.pair (.sl 0 (.pair (.int .i64) (.pair .str (.pair .str (.pair (.int .i64) (.pair (.int .i64) .unit)))))) .unit)))) (.pair (.sl 0 (.pair (.int .i64) (.pair (.int .i64) (.pair (.int .i64) (.pair (.int .i64) (.pair (.sl 0 (.pair (.int .i64) (.pair (.int .i64) .unit))) .unit)))))) (.pair (.sl 0 (.pair (.int .i64) (.pair (.sl 0 (.int .i64)) (.pair (.sl 0 (.int .i64)) (.pair (.sl 0 (.int .i64)) .unit))))) (.pair (.int .i64) (.pair (.sl 0 (.int .i64)) (.pair (.sl 0 (.pair (.int .i64) (.pair (.int .i64) (.pair .str (.pair .str .unit))))) .unit)))))) .unit)))) (.pair (.int .i64) (.pair (.sl 0 .bool) (.pair (.sl 0 (.int .i64)) (.pair (.sl 0 (.int .i64)) (.pair (.int .i64) (.pair (.pair (.sl 0 (.pair (.int .i64) (.pair (.int .i64) (.pair (.sl 0 (.pair (.int .i64) (.pair .str (.pair .str (.pair (.int .i64) (.pair (.int .i64) .unit)))))) .unit)))) (.pair (.sl 0 (.pair (.int .i64) (.pair (.int .i64) (.pair (.int .i64) (.pair (.int .i64) (.pair (.sl 0 (.pair (.int .i64) (.pair (.int .i64) .unit))) .unit)))))) (.pair (.sl 0 (.pair (.int .i64) (.pair (.sl 0 (.int .i64)) (.pair (.sl 0 (.int .i64)) (.pair (.sl 0 (.int .i64)) .unit))))) (.pair (.int .i64) (.pair (.sl 0 (.int .i64)) (.pair (.sl 0 (.pair (.int .i64) (.pair (.int .i64) (.pair .str (.pair .str .unit))))) .unit)))))) (.pair (.pair (.sl 0 (.int .u8)) (.pair (.int .i64) .unit)) (.pair (.sl 0 (.pair (.int .i64) (.pair (.int .i64) (.pair (.int .i64) (.pair (.int .i64) (.pair (.int .i64) (.pair (.int .i64) (.pair (.int .i64) (.pair (.sl 0 (.pair (.int .i64) (.pair (.pair (.int .i64) (.pair (.int .i64) (.pair (.int .i64) (.pair (.int .i64) (.pair (.int .i64) (.pair (.int .i64) (.pair .str (.pair .str .unit)))))))) .unit))) (.pair .bool (.pair .str .unit))))))))))) .unit))))))))))) .f), (.val (.sl 0 (.pair (.int .i64) (.pair (.pair (.int .i64) (.pair (.int .i64) (.pair (.pair (.int .i64) (.pair (.int .i64) (.pair (.sl 0 (.pair (.int .i64) (.pair (.pair (.int .i64) (.pair (.int .i64) (.pair (.int .i64) (.pair (.int .i64) (.pair (.int .i64) (.pair (.int .i64) (.pair .str (.pair .str .unit)))))))) .unit))) .unit))) (.pair (.pair (.sl 0 (.pair (.int .i64) (.pair (.int .i64) (.pair (.sl 0 (.pair (.int .i64) (.pair .str (.pair .str (.pair (.int .i64) (.pair (.int .i64) .unit)))))) .unit)))) (.pair (.sl 0 (.pair (.int .i64) (.pair (.int .i64) (.pair (.int .i64) (.pair (.int .i64) (.pair (.sl 0 (.pair (.int .i64) (.pair (.int .i64) .unit))) .unit)))))) (.pair (.sl 0 (.pair (.int .i64) (.pair (.sl 0 (.int .i64)) (.pair (.sl 0 (.int .i64)) (.pair (.sl 0 (.int .i64)) .unit))))) (.pair (.int .i64) (.pair (.sl 0 (.int .i64)) (.pair (.sl 0 (.pair (.int .i64) (.pair (.int .i64) (.pair .str (.pair .str .unit))))) .unit)))))) .unit)))) (.pair (.int .i64) (.pair (.sl 0 .bool) (.pair (.sl 0 (.int .i64)) (.pair (.sl 0 (.int .i64)) (.pair (.int .i64) (.pair (.pair (.sl 0 (.pair (.int .i64) (.pair (.int .i64) (.pair (.sl 0 (.pair (.int .i64) (.pair .str (.pair .str (.pair (.int .i64) (.pair (.int .i64) .unit)))))) .unit)))) (.pair (.sl 0 (.pair (.int .i64) (.pair (.int .i64) (.pair (.int .i64) (.pair (.int .i64) (.pair (.sl 0 (.pair (.int .i64) (.pair (.int .i64) .unit))) .unit)))))) (.pair (.sl 0 (.pair (.int .i64) (.pair (.sl 0 (.int .i64)) (.pair (.sl 0 (.int .i64)) (.pair (.sl 0 (.int .i64)) .unit))))) (.pair (.int .i64) (.pair (.sl 0 (.int .i64)) (.pair (.sl 0 (.pair (.int .i64) (.pair (.int .i64) (.pair .str (.pair .str .unit))))) .unit)))))) (.pair (.pair (.sl 0 (.int .u8)) (.pair (.int .i64) .unit)) (.pair (.sl 0 (.pair (.int .i64) (.pair (.int .i64) (.pair (.int .i64) (.pair (.int .i64) (.pair (.int .i64) (.pair (.int .i64) (.pair (.int .i64) (.pair (.sl 0 (.pair (.int .i64) (.pair (.pair (.int .i64) (.pair (.int .i64) (.pair (.int .i64) (.pair (.int .i64) (.pair (.int .i64) (.pair (.int .i64) (.pair .str (.pair .str .unit)))))))) .unit))) (.pair .bool (.pair .str .unit))))))))))) .unit))))))))))) .f)] (x0, (x1, ()))
noncomputable def raw (x0 : (List (Int × ((Int × (Int × (Log × (((List Row) × ((List Maker) × ((List Group) × (Int × ((List Int) × ((List Answer) × Unit)))))) × Unit)))) × (Int × ((List Bool) × ((List Int) × ((List Int) × (Int × (((List Row) × ((List Maker) × ((List Group) × (Int × ((List Int) × ((List Answer) × Unit)))))) × (Disk × ((List (Int × (Int × (Int × (Int × (Int × (Int × (Int × ((List Entry) × (Bool × ((List UInt8) × Unit))))))))))) × Unit)))))))))))) (x1 : (List (Int × ((Int × (Int × (Log × (((List Row) × ((List Maker) × ((List Group) × (Int × ((List Int) × ((List Answer) × Unit)))))) × Unit)))) × (Int × ((List Bool) × ((List Int) × ((List Int) × (Int × (((List Row) × ((List Maker) × ((List Group) × (Int × ((List Int) × ((List Answer) × Unit)))))) × (Disk × ((List (Int × (Int × (Int × (Int × (Int × (Int × (Int × ((List Entry) × (Bool × ((List UInt8) × Unit))))))))))) × Unit)))))))))))) : Option (Unit × (Bool × Unit)) :=
 if (!(decide (((List.length x0 : Nat) : Int) = ((List.length x1 : Nat) : Int)))) = true then
  some ((), (false, ()))
 else
  if (laws_eqPeerS.pre4 (x0, (x1, ((0 : Int), ())))) = true then
   letB (laws_eqPeerS.fn4 (x0, (x1, ((0 : Int), ())))) fun v1 =>
   match v1 with
   | .inl y =>
    some ((), y)
   | .inr y =>
    some ((), (true, ()))
  else
   none
theorem ok4 (x1 x2 : List Peer) (x3 : Int) (hp : pre4 (x1, (x2, (x3, ()))) = true) : Rounds pre4 mu4 fn4 (x1, (x2, (x3, ()))) (raw4 x1 x2 x3) := by
  unfold raw4
  by_cases hlt : x3 < (x1.length : Int)
  · obtain ⟨h1, h2, h3, h4⟩ := eq_next hp hlt ((0 : Int), (((0 : Int), ((0 : Int), (((0 : Int), ((0 : Int), (([] : List Entry), ()))), ((([] : List Row), (([] : List Maker), (([] : List Group), ((0 : Int), (([] : List Int), (([] : List Answer), ())))))), ())))), ((0 : Int), (([] : List Bool), (([] : List Int), (([] : List Int), ((0 : Int), ((([] : List Row), (([] : List Maker), (([] : List Group), ((0 : Int), (([] : List Int), (([] : List Answer), ())))))), ((([] : List Int), ((0 : Int), ())), (([] : List Rpc), ()))))))))))
    simp only [letB, hlt, h1, h2, decide_true, if_true]
    by_cases h : x1.getD x3.toNat ((0 : Int), (((0 : Int), ((0 : Int), (((0 : Int), ((0 : Int), (([] : List Entry), ()))), ((([] : List Row), (([] : List Maker), (([] : List Group), ((0 : Int), (([] : List Int), (([] : List Answer), ())))))), ())))), ((0 : Int), (([] : List Bool), (([] : List Int), (([] : List Int), ((0 : Int), ((([] : List Row), (([] : List Maker), (([] : List Group), ((0 : Int), (([] : List Int), (([] : List Answer), ())))))), ((([] : List Int), ((0 : Int), ())), (([] : List Rpc), ())))))))))) = x2.getD x3.toNat ((0 : Int), (((0 : Int), ((0 : Int), (((0 : Int), ((0 : Int), (([] : List Entry), ()))), ((([] : List Row), (([] : List Maker), (([] : List Group), ((0 : Int), (([] : List Int), (([] : List Answer), ())))))), ())))), ((0 : Int), (([] : List Bool), (([] : List Int), (([] : List Int), ((0 : Int), ((([] : List Row), (([] : List Maker), (([] : List Group), ((0 : Int), (([] : List Int), (([] : List Answer), ())))))), ((([] : List Int), ((0 : Int), ())), (([] : List Rpc), ()))))))))))
    · rw [if_neg (by rw [laws_eqPeer, same_true.2 h]; simp)]; exact h3 h
    · rw [if_pos (by rw [laws_eqPeer, same_false.2 h]; rfl)]; exact h4 h
  · simp only [hlt, decide_false, Bool.false_eq_true, if_false]
    exact eq_end hp hlt
theorem eq (x0 x1 : List Peer) (hw : wf x0 x1) : raw x0 x1 = some ((), (laws_eqPeerS x0 x1, ())) := by
  have h1 : x0.length ≤ maxLen := hw.1.1
  unfold raw laws_eqPeerS
  by_cases hl : (x0.length : Int) = (x1.length : Int)
  · rw [if_neg (by simp [hl]), if_pos (show pre4 _ = true from eq_start h1 hl)]
    unfold fn4
    by_cases he : x0 = x1
    · rw [eqFn_eq he, same_true.2 he]; rfl
    · rw [eqFn_ne he, same_false.2 he]; rfl
  · have : ¬ x0 = x1 := fun h => hl (by rw [h])
    rw [if_pos (by simp [hl]), same_false.2 this]
end laws_eqPeerS
def laws_toPeerS (xs : List Peer) : List Peer := xs
end Go.Aw.Pl
