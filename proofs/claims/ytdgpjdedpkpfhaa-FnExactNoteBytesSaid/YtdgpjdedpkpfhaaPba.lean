import Derived.Test.YtdgpjdedpkpfhaaAxM
namespace Go.Aw.Pl
open Go Go.Aw
set_option linter.unusedVariables false
set_option linter.unusedSimpArgs false
theorem w64 {n : Int} (h1 : -9223372036854775808 ≤ n) (h2 : n ≤ 9223372036854775807) : IntKind.wrap .i64 n = n := by
  simp [IntKind.wrap, IntKind.signed, IntKind.bits]; omega
theorem w8 {n : Int} (h1 : 0 ≤ n) (h2 : n ≤ 255) : IntKind.wrap .u8 n = n := by
  simp [IntKind.wrap, IntKind.signed, IntKind.bits]; omega
theorem maxLen_eq : maxLen = 9223372036854775807 := rfl
def small {α : Type} (xs : List α) : Bool := decide (xs.length ≤ 16777216)
theorem small_iff {α : Type} {xs : List α} : small xs = true ↔ xs.length ≤ 16777216 := by simp [small]
theorem getD_get {α : Type} {xs : List α} {i : Nat} {d : α} (h : i < xs.length) : xs.getD i d = xs[i] := by
  rw [List.getD_eq_getElem?_getD, List.getElem?_eq_getElem h]; rfl
def letB {α β : Type} (a : α) (f : α → β) : β := f a
open Classical in
noncomputable def same {α : Type} (a b : α) : Bool := decide (a = b)
theorem same_true {α : Type} {a b : α} : same a b = true ↔ a = b := by simp [same]
theorem same_false {α : Type} {a b : α} : same a b = false ↔ ¬ a = b := by simp [same]
theorem same_self {α : Type} (a : α) : same a a = true := same_true.2 rfl
theorem modify_const {α : Type} (l : List α) (i : Nat) (v : α) : l.modify i (fun _ => v) = l.set i v := by
  apply List.ext_getElem?
  intro j
  rw [List.getElem?_modify, List.getElem?_set]
  by_cases h : i = j
  · subst h
    rcases Nat.lt_or_ge i l.length with hl | hl
    · simp [hl]
    · simp [List.getElem?_eq_none hl, Nat.not_lt.2 hl]
  · simp [h]
section
variable {α : Type}
abbrev ToS (α : Type) := List α × (Int × (List α × Unit))
def toPre : ToS α → Prop := fun s => s.1.length ≤ maxLen ∧ 0 ≤ s.2.1 ∧ s.2.1.toNat ≤ s.1.length ∧ s.2.2.1.length = s.1.length ∧ s.2.2.1.take s.2.1.toNat = s.1.take s.2.1.toNat
open Classical in
noncomputable def toPreB (s : ToS α) : Bool := decide (toPre s)
def toFn : ToS α → List α × Unit := fun s => (s.1, ())
def toMu : ToS α → Nat := fun s => s.1.length - s.2.1.toNat
theorem toPreB_iff {s : ToS α} : toPreB s = true ↔ toPre s := by simp [toPreB]
theorem to_next {x1 : List α} {x2 : Int} {x3 : List α} (hp : toPreB (x1, (x2, (x3, ()))) = true) (hlt : x2 < (x1.length : Int)) (d : α) :
    x2 < (x3.length : Int) ∧ 0 ≤ x2 ∧ Rounds toPreB toMu toFn (x1, (x2, (x3, ()))) (some (.inl (x1, (IntKind.wrap .i64 (x2 + 1), (x3.modify x2.toNat (fun _ => x1.getD x2.toNat d), ()))))) := by
  rw [toPreB_iff] at hp
  obtain ⟨h1, h2, h3, h4, h5⟩ := hp
  simp only [] at h1 h2 h3 h4 h5
  have hM := maxLen_eq
  have hn : x2.toNat < x1.length := by omega
  refine ⟨by omega, h2, ?_⟩
  simp only [Rounds, w64 (n := x2 + 1) (by omega) (by omega), toPreB_iff]
  refine ⟨⟨h1, by show 0 ≤ x2 + 1; omega, by show (x2 + 1).toNat ≤ x1.length; omega, by show (List.modify _ _ _).length = _; rw [List.length_modify]; exact h4, ?_⟩, by simp only [toMu]; omega, rfl⟩
  show List.take (x2 + 1).toNat (x3.modify x2.toNat (fun _ => x1.getD x2.toNat d)) = List.take (x2 + 1).toNat x1
  rw [modify_const, show (x2 + 1).toNat = x2.toNat + 1 by omega, List.take_add_one, List.take_add_one, List.take_set_of_le (by omega), h5]
  congr 1
  rw [List.getElem?_set_self (by omega), getD_get hn, List.getElem?_eq_getElem hn]
theorem to_end {x1 : List α} {x2 : Int} {x3 : List α} (hp : toPreB (x1, (x2, (x3, ()))) = true) (hlt : ¬ x2 < (x1.length : Int)) :
    Rounds toPreB toMu toFn (x1, (x2, (x3, ()))) (some (.inr (x3, ()))) := by
  rw [toPreB_iff] at hp
  obtain ⟨h1, h2, h3, h4, h5⟩ := hp
  simp only [] at h1 h2 h3 h4 h5
  have : x2.toNat = x1.length := by omega
  rw [this, List.take_length, ← h4, List.take_length] at h5
  simp only [Rounds, toFn, h5]
theorem to_start {x : List α} (h : x.length ≤ maxLen) (d : α) : toPreB (x, ((0 : Int), (List.replicate (Int.toNat ((x.length : Nat) : Int)) d, ()))) = true := by
  rw [toPreB_iff]
  exact ⟨h, by simp, by simp, by simp, by simp⟩
abbrev EqS (α : Type) := List α × (List α × (Int × Unit))
def eqPre : EqS α → Bool := fun s => decide (s.1.length ≤ maxLen) && decide (0 ≤ s.2.2.1) && decide (s.2.2.1.toNat ≤ s.1.length) && decide (s.2.1.length = s.1.length)
open Classical in
noncomputable def eqFn : EqS α → (Bool × Unit) ⊕ Unit := fun s => if s.1.drop s.2.2.1.toNat = s.2.1.drop s.2.2.1.toNat then .inr () else .inl (false, ())
def eqMu : EqS α → Nat := fun s => s.1.length - s.2.2.1.toNat
theorem eq_next {x1 x2 : List α} {x3 : Int} (hp : eqPre (x1, (x2, (x3, ()))) = true) (hlt : x3 < (x1.length : Int)) (d : α) :
    0 ≤ x3 ∧ x3 < (x2.length : Int) ∧ (x1.getD x3.toNat d = x2.getD x3.toNat d → Rounds eqPre eqMu eqFn (x1, (x2, (x3, ()))) (some (.inl (x1, (x2, (IntKind.wrap .i64 (x3 + 1), ())))))) ∧
      (¬ x1.getD x3.toNat d = x2.getD x3.toNat d → Rounds eqPre eqMu eqFn (x1, (x2, (x3, ()))) (some (.inr (.inl (false, ()))))) := by
  simp only [eqPre, Bool.and_eq_true, decide_eq_true_eq] at hp
  obtain ⟨⟨⟨h1, h2⟩, h3⟩, h4⟩ := hp
  have hM := maxLen_eq
  have hn : x3.toNat < x1.length := by omega
  have hn2 : x3.toNat < x2.length := by omega
  have e1 := List.drop_eq_getElem_cons hn
  have e2 := List.drop_eq_getElem_cons hn2
  rw [getD_get hn, getD_get hn2]
  refine ⟨h2, by omega, fun he => ?_, fun he => ?_⟩
  · simp only [Rounds, w64 (n := x3 + 1) (by omega) (by omega)]
    refine ⟨?_, by simp only [eqMu]; omega, ?_⟩
    · simp only [eqPre, Bool.and_eq_true, decide_eq_true_eq]
      exact ⟨⟨⟨h1, by omega⟩, by omega⟩, h4⟩
    · have hi : x1.drop (x3 + 1).toNat = x2.drop (x3 + 1).toNat ↔ x1.drop x3.toNat = x2.drop x3.toNat := by
        rw [show (x3 + 1).toNat = x3.toNat + 1 by omega, e1, e2, he, List.cons.injEq]; simp
      simp only [eqFn]
      by_cases hc : x1.drop x3.toNat = x2.drop x3.toNat
      · rw [if_pos hc, if_pos (hi.2 hc)]
      · rw [if_neg hc, if_neg (fun h => hc (hi.1 h))]
  · simp only [Rounds, eqFn]
    rw [if_neg]
    rw [e1, e2, List.cons.injEq]
    exact fun h => he h.1
theorem eq_end {x1 x2 : List α} {x3 : Int} (hp : eqPre (x1, (x2, (x3, ()))) = true) (hlt : ¬ x3 < (x1.length : Int)) :
    Rounds eqPre eqMu eqFn (x1, (x2, (x3, ()))) (some (.inr (.inr ()))) := by
  simp only [eqPre, Bool.and_eq_true, decide_eq_true_eq] at hp
  obtain ⟨⟨⟨h1, h2⟩, h3⟩, h4⟩ := hp
  simp only [Rounds, eqFn]
  rw [List.drop_eq_nil_of_le (by omega), List.drop_eq_nil_of_le (by omega), if_pos rfl]
theorem eq_start {x0 x1 : List α} (h : x0.length ≤ maxLen) (hl : (x0.length : Int) = (x1.length : Int)) : eqPre (x0, (x1, ((0 : Int), ()))) = true := by
  simp only [eqPre, Bool.and_eq_true, decide_eq_true_eq]
  exact ⟨⟨⟨h, by omega⟩, by omega⟩, by omega⟩
theorem eqFn_eq {x0 x1 : List α} (h : x0 = x1) : eqFn (x0, (x1, ((0 : Int), ()))) = .inr () := by
  unfold eqFn
  exact if_pos h
theorem eqFn_ne {x0 x1 : List α} (h : ¬ x0 = x1) : eqFn (x0, (x1, ((0 : Int), ()))) = .inl (false, ()) := by
  unfold eqFn
  exact if_neg h
def szL (g : α → Int → Int) : List α → Int → Int
  | [], l => l
  | a :: r, l => if g a l < 0 then -1 else szL g r (g a l)
abbrev SzS (α : Type) := List α × (Int × (Int × Unit))
def szPre : SzS α → Bool := fun s => decide (s.1.length ≤ maxLen) && decide (0 ≤ s.2.2.1) && decide (s.2.2.1.toNat ≤ s.1.length) && decide (0 ≤ s.2.1)
def szFn (g : α → Int → Int) : SzS α → (Int × Unit) ⊕ (Int × Unit) := fun s => let r := szL g (s.1.drop s.2.2.1.toNat) s.2.1; if r < 0 then .inl (-1, ()) else .inr (r, ())
def szMu : SzS α → Nat := fun s => s.1.length - s.2.2.1.toNat
theorem sz_next {g : α → Int → Int} {x1 : List α} {x2 x3 : Int} (hp : szPre (x1, (x2, (x3, ()))) = true) (hlt : x3 < (x1.length : Int)) (d : α) :
    0 ≤ x3 ∧ (g (x1.getD x3.toNat d) x2 < 0 → Rounds szPre szMu (szFn g) (x1, (x2, (x3, ()))) (some (.inr (.inl (-1, ()))))) ∧
      (¬ g (x1.getD x3.toNat d) x2 < 0 → Rounds szPre szMu (szFn g) (x1, (x2, (x3, ()))) (some (.inl (x1, (g (x1.getD x3.toNat d) x2, (IntKind.wrap .i64 (x3 + 1), ())))))) := by
  simp only [szPre, Bool.and_eq_true, decide_eq_true_eq] at hp
  obtain ⟨⟨⟨h1, h2⟩, h3⟩, h4⟩ := hp
  have hM := maxLen_eq
  have hn : x3.toNat < x1.length := by omega
  have e1 := List.drop_eq_getElem_cons hn
  rw [getD_get hn]
  refine ⟨h2, fun he => ?_, fun he => ?_⟩
  · simp only [Rounds, szFn, e1, szL, he, if_true]
    rw [if_pos (by omega)]
  · simp only [Rounds, w64 (n := x3 + 1) (by omega) (by omega)]
    refine ⟨?_, by simp only [szMu]; omega, ?_⟩
    · simp only [szPre, Bool.and_eq_true, decide_eq_true_eq]
      exact ⟨⟨⟨h1, by omega⟩, by omega⟩, by omega⟩
    · simp only [szFn, show (x3 + 1).toNat = x3.toNat + 1 by omega, e1, szL, he, if_false]
theorem sz_end {g : α → Int → Int} {x1 : List α} {x2 x3 : Int} (hp : szPre (x1, (x2, (x3, ()))) = true) (hlt : ¬ x3 < (x1.length : Int)) :
    Rounds szPre szMu (szFn g) (x1, (x2, (x3, ()))) (some (.inr (.inr (x2, ())))) := by
  simp only [szPre, Bool.and_eq_true, decide_eq_true_eq] at hp
  obtain ⟨⟨⟨h1, h2⟩, h3⟩, h4⟩ := hp
  simp only [Rounds, szFn]
  rw [List.drop_eq_nil_of_le (by omega)]
  show _ = if x2 < 0 then _ else Sum.inr (x2, ())
  rw [if_neg (by omega)]
theorem sz_start {x : List α} (h : x.length ≤ maxLen) {l : Int} (h0 : ¬ l < 0) : szPre (x, (l, ((0 : Int), ()))) = true := by
  simp [szPre, h]; omega
end
abbrev Mark := (Int × (Int × Unit))
abbrev Answer := (Int × (Int × ((List UInt8) × ((List UInt8) × Unit))))
abbrev Cmd := (Int × (Int × (Int × (Int × Answer))))
abbrev Entry := (Int × (Cmd × Unit))
abbrev Log := (Int × (Int × ((List Entry) × Unit)))
abbrev Note := (Int × (Int × (Int × (Int × ((List Entry) × ((List UInt8) × Unit))))))
def laws_szCmd (c : Cmd) (l : Int) : Int :=
  if IntKind.wrap .i64 (l - (c.2.2.2.2.2.2.1.length : Int)) < 0 then -1 else
  if IntKind.wrap .i64 (IntKind.wrap .i64 (l - (c.2.2.2.2.2.2.1.length : Int)) - (c.2.2.2.2.2.2.2.1.length : Int)) < 0 then -1 else
  IntKind.wrap .i64 (IntKind.wrap .i64 (l - (c.2.2.2.2.2.2.1.length : Int)) - (c.2.2.2.2.2.2.2.1.length : Int))
namespace laws_szCmd
abbrev wf (x0 : Cmd) (x1 : Int) : Prop := wfA [(.val (.pair (.int .i64) (.pair (.int .i64) (.pair (.int .i64) (.pair (.int .i64) (.pair (.int .i64) (.pair (.int .i64) (.pair .str (.pair .str .unit)))))))) .f), (.val (.int .i64) .f)] (x0, (x1, ()))
noncomputable def raw (x0 : Cmd) (x1 : Int) : Option (Unit × (Int × Unit)) :=
 if (decide ((IntKind.wrap .i64 (x1 - ((List.length x0.2.2.2.2.2.2.1 : Nat) : Int))) < (0 : Int))) = true then
  some ((), ((-1 : Int), ()))
 else
  if (decide ((IntKind.wrap .i64 ((IntKind.wrap .i64 (x1 - ((List.length x0.2.2.2.2.2.2.1 : Nat) : Int))) - ((List.length x0.2.2.2.2.2.2.2.1 : Nat) : Int))) < (0 : Int))) = true then
   some ((), ((-1 : Int), ()))
  else
   some ((), ((IntKind.wrap .i64 ((IntKind.wrap .i64 (x1 - ((List.length x0.2.2.2.2.2.2.1 : Nat) : Int))) - ((List.length x0.2.2.2.2.2.2.2.1 : Nat) : Int))), ()))
theorem eq (x0 : Cmd) (x1 : Int) (_ : wf x0 x1) : raw x0 x1 = some ((), (laws_szCmd x0 x1, ())) := by
  unfold raw laws_szCmd
  simp only [decide_eq_true_eq]
  split
  · rfl
  · split <;> rfl
end laws_szCmd
def laws_szEntry (e : Entry) (l : Int) : Int := if laws_szCmd e.2.1 l < 0 then -1 else laws_szCmd e.2.1 l
namespace laws_szEntry
abbrev wf (x0 : Entry) (x1 : Int) : Prop := wfA [(.val (.pair (.int .i64) (.pair (.pair (.int .i64) (.pair (.int .i64) (.pair (.int .i64) (.pair (.int .i64) (.pair (.int .i64) (.pair (.int .i64) (.pair .str (.pair .str .unit)))))))) .unit)) .f), (.val (.int .i64) .f)] (x0, (x1, ()))
noncomputable def raw (x0 : Entry) (x1 : Int) : Option (Unit × (Int × Unit)) :=
 if (decide ((laws_szCmd x0.2.1 x1) < (0 : Int))) = true then
  some ((), ((-1 : Int), ()))
 else
  some ((), ((laws_szCmd x0.2.1 x1), ()))
theorem eq (x0 : Entry) (x1 : Int) (_ : wf x0 x1) : raw x0 x1 = some ((), (laws_szEntry x0 x1, ())) := by
  unfold raw laws_szEntry
  simp only [decide_eq_true_eq]
  split <;> rfl
end laws_szEntry
def laws_szEntryS (xs : List Entry) (l : Int) : Int := if IntKind.wrap .i64 (l - (xs.length : Int)) < 0 then -1 else if szL laws_szEntry xs (IntKind.wrap .i64 (l - (xs.length : Int))) < 0 then -1 else szL laws_szEntry xs (IntKind.wrap .i64 (l - (xs.length : Int)))
namespace laws_szEntryS
def pre5 := szPre (α := Entry)
def fn5 := szFn laws_szEntry
def mu5 := szMu (α := Entry)
noncomputable def raw5 (x1 : (List Entry)) (x2 : Int) (x3 : Int) : Option (((List Entry) × Mark) ⊕ ((Int × Unit) ⊕ (Int × Unit))) :=
 if (decide (x3 < ((List.length x1 : Nat) : Int))) = true then
  if (decide ((0 : Int) ≤ x3)) = true then
   if (decide (x3 < ((List.length x1 : Nat) : Int))) = true then
    if (decide ((laws_szEntry (List.getD x1 (Int.toNat x3) ((0 : Int), (((0 : Int), ((0 : Int), ((0 : Int), ((0 : Int), ((0 : Int), ((0 : Int), (([] : List UInt8), (([] : List UInt8), ())))))))), ()))) x2) < (0 : Int))) = true then
     some (.inr (.inl ((-1 : Int), ())))
    else
     some (.inl (x1, ((laws_szEntry (List.getD x1 (Int.toNat x3) ((0 : Int), (((0 : Int), ((0 : Int), ((0 : Int), ((0 : Int), ((0 : Int), ((0 : Int), (([] : List UInt8), (([] : List UInt8), ())))))))), ()))) x2), ((IntKind.wrap .i64 (x3 + (1 : Int))), ()))))
   else
    none
  else
   none
 else
  some (.inr (.inr (x2, ())))
abbrev wf (x0 : (List Entry)) (x1 : Int) : Prop := wfA [(.val (.sl 0 (.pair (.int .i64) (.pair (.pair (.int .i64) (.pair (.int .i64) (.pair (.int .i64) (.pair (.int .i64) (.pair (.int .i64) (.pair (.int .i64) (.pair .str (.pair .str .unit)))))))) .unit))) .f), (.val (.int .i64) .f)] (x0, (x1, ()))
noncomputable def raw (x0 : (List Entry)) (x1 : Int) : Option (Unit × (Int × Unit)) :=
 if (decide ((IntKind.wrap .i64 (x1 - ((List.length x0 : Nat) : Int))) < (0 : Int))) = true then
  some ((), ((-1 : Int), ()))
 else
  if (laws_szEntryS.pre5 (x0, ((IntKind.wrap .i64 (x1 - ((List.length x0 : Nat) : Int))), ((0 : Int), ())))) = true then
   match (laws_szEntryS.fn5 (x0, ((IntKind.wrap .i64 (x1 - ((List.length x0 : Nat) : Int))), ((0 : Int), ())))) with
   | .inl y =>
    some ((), y)
   | .inr y =>
    some ((), y)
  else
   none
theorem ok5 (x1 : List Entry) (x2 x3 : Int) (hp : pre5 (x1, (x2, (x3, ()))) = true) : Rounds pre5 mu5 fn5 (x1, (x2, (x3, ()))) (raw5 x1 x2 x3) := by
  unfold raw5
  by_cases hlt : x3 < (x1.length : Int)
  · obtain ⟨h1, h2, h3⟩ := sz_next (g := laws_szEntry) hp hlt ((0 : Int), (((0 : Int), ((0 : Int), ((0 : Int), ((0 : Int), ((0 : Int), ((0 : Int), (([] : List UInt8), (([] : List UInt8), ())))))))), ()))
    simp only [hlt, h1, decide_true, if_true, decide_eq_true_eq]
    split
    · rename_i h; exact h2 h
    · rename_i h; exact h3 h
  · simp only [hlt, decide_false, Bool.false_eq_true, if_false]
    exact sz_end hp hlt
theorem eq (x0 : List Entry) (x1 : Int) (hw : wf x0 x1) : raw x0 x1 = some ((), (laws_szEntryS x0 x1, ())) := by
  have h1 : x0.length ≤ maxLen := hw.1.1
  unfold raw laws_szEntryS
  simp only [decide_eq_true_eq]
  split
  · rfl
  · rename_i h
    rw [if_pos (show pre5 _ = true from sz_start h1 h)]
    simp only [fn5, szFn, Int.toNat_zero, List.drop_zero]
    split
    · rename_i y hy
      split at hy
      · rename_i h2; cases hy; rw [if_pos h2]
      · cases hy
    · rename_i y hy
      split at hy
      · cases hy
      · rename_i h2; cases hy; rw [if_neg h2]
end laws_szEntryS
theorem szEntryS_small {xs : List Entry} (hl : xs.length ≤ maxLen) {l : Int} (h0 : 0 ≤ l) (h1 : l ≤ 16777216) (h : ¬ laws_szEntryS xs l < 0) : (xs.length : Int) ≤ l := by
  have hM := maxLen_eq
  unfold laws_szEntryS at h
  rw [w64 (by omega) (by omega)] at h
  split at h <;> omega
def laws_toCmd (c : Cmd) : Cmd := c
namespace laws_toCmd
abbrev wf (x0 : Cmd) : Prop := wfA [(.val (.pair (.int .i64) (.pair (.int .i64) (.pair (.int .i64) (.pair (.int .i64) (.pair (.int .i64) (.pair (.int .i64) (.pair .str (.pair .str .unit)))))))) .f)] (x0, ())
noncomputable def raw (x0 : Cmd) : Option (Unit × (Cmd × Unit)) :=
 some ((), (x0, ()))
theorem eq (x0 : Cmd) (_ : wf x0) : raw x0 = some ((), (laws_toCmd x0, ())) := rfl
end laws_toCmd
def laws_toEntry (c : Entry) : Entry := c
namespace laws_toEntry
abbrev wf (x0 : Entry) : Prop := wfA [(.val (.pair (.int .i64) (.pair (.pair (.int .i64) (.pair (.int .i64) (.pair (.int .i64) (.pair (.int .i64) (.pair (.int .i64) (.pair (.int .i64) (.pair .str (.pair .str .unit)))))))) .unit)) .f)] (x0, ())
noncomputable def raw (x0 : Entry) : Option (Unit × (Entry × Unit)) :=
 some ((), ((x0.1, ((laws_toCmd x0.2.1), ())), ()))
theorem eq (x0 : Entry) (_ : wf x0) : raw x0 = some ((), (laws_toEntry x0, ())) := rfl
end laws_toEntry
def laws_toEntryS (xs : List Entry) : List Entry := xs
namespace laws_toEntryS
def pre (xs : List Entry) : Bool := small xs
noncomputable def pre3 := toPreB (α := Entry)
def fn3 := toFn (α := Entry)
def mu3 := toMu (α := Entry)
noncomputable def raw3 (x1 : (List Entry)) (x2 : Int) (x3 : (List Entry)) : Option (((List Entry) × (Int × ((List Entry) × Unit))) ⊕ ((List Entry) × Unit)) :=
 if (decide (x2 < ((List.length x1 : Nat) : Int))) = true then
  if (decide ((0 : Int) ≤ x2)) = true then
   if (decide (x2 < ((List.length x1 : Nat) : Int))) = true then
    if (decide ((0 : Int) ≤ x2)) = true then
     if (decide (x2 < ((List.length x3 : Nat) : Int))) = true then
      some (.inl (x1, ((IntKind.wrap .i64 (x2 + (1 : Int))), ((List.modify x3 (Int.toNat x2) (fun z => (laws_toEntry (List.getD x1 (Int.toNat x2) ((0 : Int), (((0 : Int), ((0 : Int), ((0 : Int), ((0 : Int), ((0 : Int), ((0 : Int), (([] : List UInt8), (([] : List UInt8), ())))))))), ())))))), ()))))
     else
      none
    else
     none
   else
    none
  else
   none
 else
  some (.inr (x3, ()))
abbrev wf (x0 : (List Entry)) : Prop := wfA [(.val (.sl 0 (.pair (.int .i64) (.pair (.pair (.int .i64) (.pair (.int .i64) (.pair (.int .i64) (.pair (.int .i64) (.pair (.int .i64) (.pair (.int .i64) (.pair .str (.pair .str .unit)))))))) .unit))) .f)] (x0, ())
noncomputable def raw (x0 : (List Entry)) : Option (Unit × ((List Entry) × Unit)) :=
 if (decide ((0 : Int) ≤ ((List.length x0 : Nat) : Int))) = true then
  if (decide (((List.length x0 : Nat) : Int) ≤ ((List.length x0 : Nat) : Int))) = true then
   if (decide (((List.length x0 : Nat) : Int) ≤ (4294967296 : Int))) = true then
    if (laws_toEntryS.pre3 (x0, ((0 : Int), ((List.replicate (Int.toNat ((List.length x0 : Nat) : Int)) ((0 : Int), (((0 : Int), ((0 : Int), ((0 : Int), ((0 : Int), ((0 : Int), ((0 : Int), (([] : List UInt8), (([] : List UInt8), ())))))))), ()))), ())))) = true then
     some ((), (laws_toEntryS.fn3 (x0, ((0 : Int), ((List.replicate (Int.toNat ((List.length x0 : Nat) : Int)) ((0 : Int), (((0 : Int), ((0 : Int), ((0 : Int), ((0 : Int), ((0 : Int), ((0 : Int), (([] : List UInt8), (([] : List UInt8), ())))))))), ()))), ())))))
    else
     none
   else
    none
  else
   none
 else
  none
theorem ok3 (x1 : List Entry) (x2 : Int) (x3 : List Entry) (hp : pre3 (x1, (x2, (x3, ()))) = true) : Rounds pre3 mu3 fn3 (x1, (x2, (x3, ()))) (raw3 x1 x2 x3) := by
  unfold raw3
  by_cases hlt : x2 < (x1.length : Int)
  · obtain ⟨h1, h2, h3⟩ := to_next hp hlt ((0 : Int), (((0 : Int), ((0 : Int), ((0 : Int), ((0 : Int), ((0 : Int), ((0 : Int), (([] : List UInt8), (([] : List UInt8), ())))))))), ()))
    simp only [hlt, h1, h2, decide_true, if_true]
    exact h3
  · simp only [hlt, decide_false, Bool.false_eq_true, if_false]
    exact to_end hp hlt
theorem eq (x0 : List Entry) (hw : wf x0) (hp : pre x0 = true) : raw x0 = some ((), (laws_toEntryS x0, ())) := by
  have h1 : x0.length ≤ maxLen := hw.1.1
  rw [pre, small_iff] at hp
  unfold raw laws_toEntryS
  rw [if_pos (by simp), if_pos (by simp), if_pos (by simp; omega), if_pos (show pre3 _ = true from to_start h1 _)]
  rfl
end laws_toEntryS
noncomputable def laws_eqCmd (a b : Cmd) : Bool := same a b
namespace laws_eqCmd
abbrev wf (x0 : Cmd) (x1 : Cmd) : Prop := wfA [(.val (.pair (.int .i64) (.pair (.int .i64) (.pair (.int .i64) (.pair (.int .i64) (.pair (.int .i64) (.pair (.int .i64) (.pair .str (.pair .str .unit)))))))) .f), (.val (.pair (.int .i64) (.pair (.int .i64) (.pair (.int .i64) (.pair (.int .i64) (.pair (.int .i64) (.pair (.int .i64) (.pair .str (.pair .str .unit)))))))) .f)] (x0, (x1, ()))
noncomputable def raw (x0 : Cmd) (x1 : Cmd) : Option (Unit × (Bool × Unit)) :=
 if (!(decide (x0.1 = x1.1))) = true then
  some ((), (false, ()))
 else
  if (!(decide (x0.2.1 = x1.2.1))) = true then
   some ((), (false, ()))
  else
   if (!(decide (x0.2.2.1 = x1.2.2.1))) = true then
    some ((), (false, ()))
   else
    if (!(decide (x0.2.2.2.1 = x1.2.2.2.1))) = true then
     some ((), (false, ()))
    else
     if (!(decide (x0.2.2.2.2.1 = x1.2.2.2.2.1))) = true then
      some ((), (false, ()))
     else
      if (!(decide (x0.2.2.2.2.2.1 = x1.2.2.2.2.2.1))) = true then
       some ((), (false, ()))
      else
       if (!(x0.2.2.2.2.2.2.1 == x1.2.2.2.2.2.2.1)) = true then
        some ((), (false, ()))
       else
        if (!(x0.2.2.2.2.2.2.2.1 == x1.2.2.2.2.2.2.2.1)) = true then
         some ((), (false, ()))
        else
         some ((), (true, ()))
theorem eq (x0 x1 : Cmd) (_ : wf x0 x1) : raw x0 x1 = some ((), (laws_eqCmd x0 x1, ())) := by
  obtain ⟨a1, a2, a3, a4, a5, a6, a7, a8, _⟩ := x0
  obtain ⟨b1, b2, b3, b4, b5, b6, b7, b8, _⟩ := x1
  unfold raw laws_eqCmd
  simp only [Bool.not_eq_true', decide_eq_false_iff_not, beq_eq_false_iff_ne, ne_eq]
  by_cases h1 : a1 = b1
  case neg => rw [if_pos h1, same_false.2 (by simp [h1])]
  rw [if_neg (by simp [h1])]
  by_cases h2 : a2 = b2
  case neg => rw [if_pos h2, same_false.2 (by simp [h2])]
  rw [if_neg (by simp [h2])]
  by_cases h3 : a3 = b3
  case neg => rw [if_pos h3, same_false.2 (by simp [h3])]
  rw [if_neg (by simp [h3])]
  by_cases h4 : a4 = b4
  case neg => rw [if_pos h4, same_false.2 (by simp [h4])]
  rw [if_neg (by simp [h4])]
  by_cases h5 : a5 = b5
  case neg => rw [if_pos h5, same_false.2 (by simp [h5])]
  rw [if_neg (by simp [h5])]
  by_cases h6 : a6 = b6
  case neg => rw [if_pos h6, same_false.2 (by simp [h6])]
  rw [if_neg (by simp [h6])]
  by_cases h7 : a7 = b7
  case neg => rw [if_pos h7, same_false.2 (by simp [h7])]
  rw [if_neg (by simp [h7])]
  by_cases h8 : a8 = b8
  case neg => rw [if_pos h8, same_false.2 (by simp [h8])]
  rw [if_neg (by simp [h8])]
  rw [same_true.2 (by simp [h1, h2, h3, h4, h5, h6, h7, h8])]
end laws_eqCmd
noncomputable def laws_eqEntry (a b : Entry) : Bool := same a b
namespace laws_eqEntry
abbrev wf (x0 : Entry) (x1 : Entry) : Prop := wfA [(.val (.pair (.int .i64) (.pair (.pair (.int .i64) (.pair (.int .i64) (.pair (.int .i64) (.pair (.int .i64) (.pair (.int .i64) (.pair (.int .i64) (.pair .str (.pair .str .unit)))))))) .unit)) .f), (.val (.pair (.int .i64) (.pair (.pair (.int .i64) (.pair (.int .i64) (.pair (.int .i64) (.pair (.int .i64) (.pair (.int .i64) (.pair (.int .i64) (.pair .str (.pair .str .unit)))))))) .unit)) .f)] (x0, (x1, ()))
noncomputable def raw (x0 : Entry) (x1 : Entry) : Option (Unit × (Bool × Unit)) :=
 if (!(decide (x0.1 = x1.1))) = true then
  some ((), (false, ()))
 else
  if (!(laws_eqCmd x0.2.1 x1.2.1)) = true then
   some ((), (false, ()))
  else
   some ((), (true, ()))
theorem eq (x0 x1 : Entry) (_ : wf x0 x1) : raw x0 x1 = some ((), (laws_eqEntry x0 x1, ())) := by
  obtain ⟨a1, a2, _⟩ := x0
  obtain ⟨b1, b2, _⟩ := x1
  unfold raw laws_eqEntry laws_eqCmd
  simp only [Bool.not_eq_true', decide_eq_false_iff_not, same_false]
  by_cases h1 : a1 = b1
  case neg => rw [if_pos h1, same_false.2 (by simp [h1])]
  rw [if_neg (by simp [h1])]
  by_cases h2 : a2 = b2
  case neg => rw [if_pos (by simp [same_false.2 h2]), same_false.2 (by simp [h2])]
  rw [if_neg (by simp [same_true.2 h2]), same_true.2 (by simp [h1, h2])]
end laws_eqEntry
noncomputable def laws_eqEntryS (a b : List Entry) : Bool := same a b
namespace laws_eqEntryS
def pre4 := eqPre (α := Entry)
noncomputable def fn4 := eqFn (α := Entry)
def mu4 := eqMu (α := Entry)
noncomputable def raw4 (x1 : (List Entry)) (x2 : (List Entry)) (x3 : Int) : Option (((List Entry) × ((List Entry) × (Int × Unit))) ⊕ ((Bool × Unit) ⊕ Unit)) :=
 if (decide (x3 < ((List.length x1 : Nat) : Int))) = true then
  if (decide ((0 : Int) ≤ x3)) = true then
   if (decide (x3 < ((List.length x1 : Nat) : Int))) = true then
    if (decide ((0 : Int) ≤ x3)) = true then
     if (decide (x3 < ((List.length x2 : Nat) : Int))) = true then
      if (!(laws_eqEntry (List.getD x1 (Int.toNat x3) ((0 : Int), (((0 : Int), ((0 : Int), ((0 : Int), ((0 : Int), ((0 : Int), ((0 : Int), (([] : List UInt8), (([] : List UInt8), ())))))))), ()))) (List.getD x2 (Int.toNat x3) ((0 : Int), (((0 : Int), ((0 : Int), ((0 : Int), ((0 : Int), ((0 : Int), ((0 : Int), (([] : List UInt8), (([] : List UInt8), ())))))))), ()))))) = true then
       some (.inr (.inl (false, ())))
      else
       some (.inl (x1, (x2, ((IntKind.wrap .i64 (x3 + (1 : Int))), ()))))
     else
      none
    else
     none
   else
    none
  else
   none
 else
  some (.inr (.inr ()))
abbrev wf (x0 : (List Entry)) (x1 : (List Entry)) : Prop := wfA [(.val (.sl 0 (.pair (.int .i64) (.pair (.pair (.int .i64) (.pair (.int .i64) (.pair (.int .i64) (.pair (.int .i64) (.pair (.int .i64) (.pair (.int .i64) (.pair .str (.pair .str .unit)))))))) .unit))) .f), (.val (.sl 0 (.pair (.int .i64) (.pair (.pair (.int .i64) (.pair (.int .i64) (.pair (.int .i64) (.pair (.int .i64) (.pair (.int .i64) (.pair (.int .i64) (.pair .str (.pair .str .unit)))))))) .unit))) .f)] (x0, (x1, ()))
noncomputable def raw (x0 : (List Entry)) (x1 : (List Entry)) : Option (Unit × (Bool × Unit)) :=
 if (!(decide (((List.length x0 : Nat) : Int) = ((List.length x1 : Nat) : Int)))) = true then
  some ((), (false, ()))
 else
  if (laws_eqEntryS.pre4 (x0, (x1, ((0 : Int), ())))) = true then
   match (laws_eqEntryS.fn4 (x0, (x1, ((0 : Int), ())))) with
   | .inl y =>
    some ((), y)
   | .inr y =>
    some ((), (true, ()))
  else
   none
theorem ok4 (x1 x2 : List Entry) (x3 : Int) (hp : pre4 (x1, (x2, (x3, ()))) = true) : Rounds pre4 mu4 fn4 (x1, (x2, (x3, ()))) (raw4 x1 x2 x3) := by
  unfold raw4
  by_cases hlt : x3 < (x1.length : Int)
  · obtain ⟨h1, h2, h3, h4⟩ := eq_next hp hlt ((0 : Int), (((0 : Int), ((0 : Int), ((0 : Int), ((0 : Int), ((0 : Int), ((0 : Int), (([] : List UInt8), (([] : List UInt8), ())))))))), ()))
    simp only [hlt, h1, h2, decide_true, if_true]
    by_cases h : x1.getD x3.toNat ((0 : Int), (((0 : Int), ((0 : Int), ((0 : Int), ((0 : Int), ((0 : Int), ((0 : Int), (([] : List UInt8), (([] : List UInt8), ())))))))), ())) = x2.getD x3.toNat ((0 : Int), (((0 : Int), ((0 : Int), ((0 : Int), ((0 : Int), ((0 : Int), ((0 : Int), (([] : List UInt8), (([] : List UInt8), ())))))))), ()))
    · rw [if_neg (by rw [laws_eqEntry, same_true.2 h]; simp)]; exact h3 h
    · rw [if_pos (by rw [laws_eqEntry, same_false.2 h]; rfl)]; exact h4 h
  · simp only [hlt, decide_false, Bool.false_eq_true, if_false]
    exact eq_end hp hlt
theorem eq (x0 x1 : List Entry) (hw : wf x0 x1) : raw x0 x1 = some ((), (laws_eqEntryS x0 x1, ())) := by
  have h1 : x0.length ≤ maxLen := hw.1.1
  unfold raw laws_eqEntryS
  by_cases hl : (x0.length : Int) = (x1.length : Int)
  · rw [if_neg (by simp [hl]), if_pos (show pre4 _ = true from eq_start h1 hl)]
    unfold fn4
    by_cases he : x0 = x1
    · rw [eqFn_eq he, same_true.2 he]
    · rw [eqFn_ne he, same_false.2 he]
  · have : ¬ x0 = x1 := fun h => hl (by rw [h])
    rw [if_pos (by simp [hl]), same_false.2 this]
end laws_eqEntryS
def impl_within (n lo hi : Int) : Bool := decide (lo ≤ n) && decide (n ≤ hi)
namespace impl_within
abbrev wf (x0 : Int) (x1 : Int) (x2 : Int) : Prop := wfA [(.val (.int .i64) .f), (.val (.int .i64) .f), (.val (.int .i64) .f)] (x0, (x1, (x2, ())))
noncomputable def raw (x0 : Int) (x1 : Int) (x2 : Int) : Option (Unit × (Bool × Unit)) :=
 if (decide (x1 ≤ x0)) = true then
  some ((), ((decide (x0 ≤ x2)), ()))
 else
  some ((), (false, ()))
theorem eq (x0 x1 x2 : Int) (_ : wf x0 x1 x2) : raw x0 x1 x2 = some ((), (impl_within x0 x1 x2, ())) := by
  unfold raw impl_within
  by_cases h : x1 ≤ x0 <;> simp [h]
end impl_within
abbrev spec_l1In := impl_within
namespace spec_l1In
abbrev wf (x0 : Int) (x1 : Int) (x2 : Int) : Prop := wfA [(.val (.int .i64) .f), (.val (.int .i64) .f), (.val (.int .i64) .f)] (x0, (x1, (x2, ())))
noncomputable def raw (x0 : Int) (x1 : Int) (x2 : Int) : Option (Unit × (Bool × Unit)) :=
 if (decide (x1 ≤ x0)) = true then
  some ((), ((decide (x0 ≤ x2)), ()))
 else
  some ((), (false, ()))
theorem eq (x0 x1 x2 : Int) (_ : wf x0 x1 x2) : raw x0 x1 x2 = some ((), (spec_l1In x0 x1 x2, ())) := by
  unfold raw spec_l1In impl_within
  by_cases h : x1 ≤ x0 <;> simp [h]
end spec_l1In
def chOk (c : UInt8) : Bool := (decide (97 ≤ c.toNat) && decide (c.toNat ≤ 122)) || (decide (48 ≤ c.toNat) && decide (c.toNat ≤ 57)) || decide (c.toNat = 32)
def wordsOk (s : List UInt8) : Bool := s.all chOk && decide (s.length ≤ 30)
abbrev TxS := List UInt8 × (Int × Unit)
def txPre : TxS → Bool := fun s => decide (s.1.length ≤ maxLen) && decide (0 ≤ s.2.1) && decide (s.2.1.toNat ≤ s.1.length)
def txFn : TxS → (Bool × Unit) ⊕ (List UInt8 × Unit) := fun s => if (s.1.drop s.2.1.toNat).all chOk = true then .inr (s.1, ()) else .inl (false, ())
def txMu : TxS → Nat := fun s => s.1.length - s.2.1.toNat
theorem tx_next {x1 : List UInt8} {x2 : Int} (hp : txPre (x1, (x2, ())) = true) (hlt : x2 < (x1.length : Int)) :
    0 ≤ x2 ∧ (chOk (x1.getD x2.toNat 0) = true → Rounds txPre txMu txFn (x1, (x2, ())) (some (.inl (x1, (IntKind.wrap .i64 (x2 + 1), ()))))) ∧
      (chOk (x1.getD x2.toNat 0) = false → Rounds txPre txMu txFn (x1, (x2, ())) (some (.inr (.inl (false, ()))))) := by
  simp only [txPre, Bool.and_eq_true, decide_eq_true_eq] at hp
  obtain ⟨⟨h1, h2⟩, h3⟩ := hp
  have hM := maxLen_eq
  have hn : x2.toNat < x1.length := by omega
  have e1 := List.drop_eq_getElem_cons hn
  rw [getD_get hn]
  refine ⟨h2, fun he => ?_, fun he => ?_⟩
  · simp only [Rounds, w64 (n := x2 + 1) (by omega) (by omega)]
    refine ⟨?_, by simp only [txMu]; omega, ?_⟩
    · simp only [txPre, Bool.and_eq_true, decide_eq_true_eq]
      exact ⟨⟨h1, by omega⟩, by omega⟩
    · simp only [txFn, show (x2 + 1).toNat = x2.toNat + 1 by omega, e1, List.all_cons, he, Bool.true_and]
  · simp only [Rounds, txFn, e1, List.all_cons, he, Bool.false_and, Bool.false_eq_true, if_false]
theorem tx_end {x1 : List UInt8} {x2 : Int} (hp : txPre (x1, (x2, ())) = true) (hlt : ¬ x2 < (x1.length : Int)) :
    Rounds txPre txMu txFn (x1, (x2, ())) (some (.inr (.inr (x1, ())))) := by
  simp only [txPre, Bool.and_eq_true, decide_eq_true_eq] at hp
  obtain ⟨⟨h1, h2⟩, h3⟩ := hp
  simp only [Rounds, txFn]
  rw [List.drop_eq_nil_of_le (by omega)]
  rfl
theorem tx_eq {x0 : List UInt8} (h : x0.length ≤ maxLen) : txPre (x0, ((0 : Int), ())) = true := by simp [txPre, h]
abbrev impl_wordsOk := wordsOk
abbrev spec_l2Text := wordsOk
namespace impl_wordsOk
def pre2 := txPre
def fn2 := txFn
def mu2 := txMu
noncomputable def raw2 (x1 : (List UInt8)) (x2 : Int) : Option (((List UInt8) × (Int × Unit)) ⊕ ((Bool × Unit) ⊕ ((List UInt8) × Unit))) :=
 if (decide (x2 < ((List.length x1 : Nat) : Int))) = true then
  if (decide ((0 : Int) ≤ x2)) = true then
   if (decide (x2 < ((List.length x1 : Nat) : Int))) = true then
    if (decide (((UInt8.toNat (List.getD x1 (Int.toNat x2) 0) : Nat) : Int) < (97 : Int))) = true then
     if (decide (((UInt8.toNat (List.getD x1 (Int.toNat x2) 0) : Nat) : Int) < (48 : Int))) = true then
      if (!(decide (((UInt8.toNat (List.getD x1 (Int.toNat x2) 0) : Nat) : Int) = (32 : Int)))) = true then
       some (.inr (.inl (false, ())))
      else
       some (.inl (x1, ((IntKind.wrap .i64 (x2 + (1 : Int))), ())))
     else
      if (decide ((57 : Int) < ((UInt8.toNat (List.getD x1 (Int.toNat x2) 0) : Nat) : Int))) = true then
       if (!(decide (((UInt8.toNat (List.getD x1 (Int.toNat x2) 0) : Nat) : Int) = (32 : Int)))) = true then
        some (.inr (.inl (false, ())))
       else
        some (.inl (x1, ((IntKind.wrap .i64 (x2 + (1 : Int))), ())))
      else
       some (.inl (x1, ((IntKind.wrap .i64 (x2 + (1 : Int))), ())))
    else
     if (decide ((122 : Int) < ((UInt8.toNat (List.getD x1 (Int.toNat x2) 0) : Nat) : Int))) = true then
      if (decide (((UInt8.toNat (List.getD x1 (Int.toNat x2) 0) : Nat) : Int) < (48 : Int))) = true then
       if (!(decide (((UInt8.toNat (List.getD x1 (Int.toNat x2) 0) : Nat) : Int) = (32 : Int)))) = true then
        some (.inr (.inl (false, ())))
       else
        some (.inl (x1, ((IntKind.wrap .i64 (x2 + (1 : Int))), ())))
      else
       if (decide ((57 : Int) < ((UInt8.toNat (List.getD x1 (Int.toNat x2) 0) : Nat) : Int))) = true then
        if (!(decide (((UInt8.toNat (List.getD x1 (Int.toNat x2) 0) : Nat) : Int) = (32 : Int)))) = true then
         some (.inr (.inl (false, ())))
        else
         some (.inl (x1, ((IntKind.wrap .i64 (x2 + (1 : Int))), ())))
       else
        some (.inl (x1, ((IntKind.wrap .i64 (x2 + (1 : Int))), ())))
     else
      some (.inl (x1, ((IntKind.wrap .i64 (x2 + (1 : Int))), ())))
   else
    none
  else
   none
 else
  some (.inr (.inr (x1, ())))
abbrev wf (x0 : (List UInt8)) : Prop := wfA [(.val .str .f)] (x0, ())
noncomputable def raw (x0 : (List UInt8)) : Option (Unit × (Bool × Unit)) :=
 if (impl_wordsOk.pre2 (x0, ((0 : Int), ()))) = true then
  match (impl_wordsOk.fn2 (x0, ((0 : Int), ()))) with
  | .inl y =>
   some ((), y)
  | .inr y =>
   some ((), ((decide (((List.length y.1 : Nat) : Int) ≤ (30 : Int))), ()))
 else
  none
theorem ok2 (x1 : List UInt8) (x2 : Int) (hp : pre2 (x1, (x2, ())) = true) : Rounds pre2 mu2 fn2 (x1, (x2, ())) (raw2 x1 x2) := by
  unfold raw2
  by_cases hlt : x2 < (x1.length : Int)
  · obtain ⟨h1, h2, h3⟩ := tx_next hp hlt
    simp only [hlt, h1, decide_true, if_true, decide_eq_true_eq, Bool.not_eq_true', decide_eq_false_iff_not]
    generalize hc : (x1.getD x2.toNat 0) = c at *
    have hk : chOk c = true ∨ chOk c = false := by cases chOk c <;> simp
    unfold chOk at hk h2 h3
    simp only [Bool.or_eq_true, Bool.and_eq_true, decide_eq_true_eq, Bool.or_eq_false_iff, Bool.and_eq_false_iff, decide_eq_false_iff_not] at hk h2 h3
    repeat' split
    all_goals first | (exact h2 (by omega)) | (exact h3 (by omega))
  · simp only [hlt, decide_false, Bool.false_eq_true, if_false]
    exact tx_end hp hlt
theorem eq (x0 : List UInt8) (hw : wf x0) : raw x0 = some ((), (impl_wordsOk x0, ())) := by
  have h1 : x0.length ≤ maxLen := hw.1
  unfold raw impl_wordsOk wordsOk
  rw [if_pos (show pre2 _ = true from tx_eq h1)]
  simp only [fn2, txFn, Int.toNat_zero, List.drop_zero]
  by_cases h : x0.all chOk = true
  · rw [if_pos h, h]
    by_cases hl : x0.length ≤ 30
    · simp [hl]; omega
    · simp [hl]; omega
  · rw [if_neg h]; simp [h]
end impl_wordsOk
namespace spec_l2Text
def pre2 := txPre
def fn2 := txFn
def mu2 := txMu
noncomputable def raw2 (x1 : (List UInt8)) (x2 : Int) : Option (((List UInt8) × (Int × Unit)) ⊕ ((Bool × Unit) ⊕ ((List UInt8) × Unit))) :=
 if (decide (x2 < ((List.length x1 : Nat) : Int))) = true then
  if (decide ((0 : Int) ≤ x2)) = true then
   if (decide (x2 < ((List.length x1 : Nat) : Int))) = true then
    if (decide ((97 : Int) ≤ ((UInt8.toNat (List.getD x1 (Int.toNat x2) 0) : Nat) : Int))) = true then
     if (decide (((UInt8.toNat (List.getD x1 (Int.toNat x2) 0) : Nat) : Int) ≤ (122 : Int))) = true then
      if (!true) = true then
       some (.inr (.inl (false, ())))
      else
       some (.inl (x1, ((IntKind.wrap .i64 (x2 + (1 : Int))), ())))
     else
      if (decide ((48 : Int) ≤ ((UInt8.toNat (List.getD x1 (Int.toNat x2) 0) : Nat) : Int))) = true then
       if (decide (((UInt8.toNat (List.getD x1 (Int.toNat x2) 0) : Nat) : Int) ≤ (57 : Int))) = true then
        if (!true) = true then
         some (.inr (.inl (false, ())))
        else
         some (.inl (x1, ((IntKind.wrap .i64 (x2 + (1 : Int))), ())))
       else
        if (!(decide (((UInt8.toNat (List.getD x1 (Int.toNat x2) 0) : Nat) : Int) = (32 : Int)))) = true then
         some (.inr (.inl (false, ())))
        else
         some (.inl (x1, ((IntKind.wrap .i64 (x2 + (1 : Int))), ())))
      else
       if (!(decide (((UInt8.toNat (List.getD x1 (Int.toNat x2) 0) : Nat) : Int) = (32 : Int)))) = true then
        some (.inr (.inl (false, ())))
       else
        some (.inl (x1, ((IntKind.wrap .i64 (x2 + (1 : Int))), ())))
    else
     if (decide ((48 : Int) ≤ ((UInt8.toNat (List.getD x1 (Int.toNat x2) 0) : Nat) : Int))) = true then
      if (decide (((UInt8.toNat (List.getD x1 (Int.toNat x2) 0) : Nat) : Int) ≤ (57 : Int))) = true then
       if (!true) = true then
        some (.inr (.inl (false, ())))
       else
        some (.inl (x1, ((IntKind.wrap .i64 (x2 + (1 : Int))), ())))
      else
       if (!(decide (((UInt8.toNat (List.getD x1 (Int.toNat x2) 0) : Nat) : Int) = (32 : Int)))) = true then
        some (.inr (.inl (false, ())))
       else
        some (.inl (x1, ((IntKind.wrap .i64 (x2 + (1 : Int))), ())))
     else
      if (!(decide (((UInt8.toNat (List.getD x1 (Int.toNat x2) 0) : Nat) : Int) = (32 : Int)))) = true then
       some (.inr (.inl (false, ())))
      else
       some (.inl (x1, ((IntKind.wrap .i64 (x2 + (1 : Int))), ())))
   else
    none
  else
   none
 else
  some (.inr (.inr (x1, ())))
abbrev wf (x0 : (List UInt8)) : Prop := wfA [(.val .str .f)] (x0, ())
noncomputable def raw (x0 : (List UInt8)) : Option (Unit × (Bool × Unit)) :=
 if (spec_l2Text.pre2 (x0, ((0 : Int), ()))) = true then
  match (spec_l2Text.fn2 (x0, ((0 : Int), ()))) with
  | .inl y =>
   some ((), y)
  | .inr y =>
   some ((), ((decide (((List.length y.1 : Nat) : Int) ≤ (30 : Int))), ()))
 else
  none
theorem ok2 (x1 : List UInt8) (x2 : Int) (hp : pre2 (x1, (x2, ())) = true) : Rounds pre2 mu2 fn2 (x1, (x2, ())) (raw2 x1 x2) := by
  unfold raw2
  by_cases hlt : x2 < (x1.length : Int)
  · obtain ⟨h1, h2, h3⟩ := tx_next hp hlt
    simp only [hlt, h1, decide_true, if_true, decide_eq_true_eq, Bool.not_eq_true', decide_eq_false_iff_not, Bool.not_true, Bool.false_eq_true, if_false]
    generalize hc : (x1.getD x2.toNat 0) = c at *
    have hk : chOk c = true ∨ chOk c = false := by cases chOk c <;> simp
    unfold chOk at hk h2 h3
    simp only [Bool.or_eq_true, Bool.and_eq_true, decide_eq_true_eq, Bool.or_eq_false_iff, Bool.and_eq_false_iff, decide_eq_false_iff_not] at hk h2 h3
    repeat' split
    all_goals first | (exact h2 (by omega)) | (exact h3 (by omega))
  · simp only [hlt, decide_false, Bool.false_eq_true, if_false]
    exact tx_end hp hlt
theorem eq (x0 : List UInt8) (hw : wf x0) : raw x0 = some ((), (spec_l2Text x0, ())) := by
  have h1 : x0.length ≤ maxLen := hw.1
  unfold raw spec_l2Text wordsOk
  rw [if_pos (show pre2 _ = true from tx_eq h1)]
  simp only [fn2, txFn, Int.toNat_zero, List.drop_zero]
  by_cases h : x0.all chOk = true
  · rw [if_pos h, h]
    by_cases hl : x0.length ≤ 30
    · simp [hl]; omega
    · simp [hl]; omega
  · rw [if_neg h]; simp [h]
end spec_l2Text
def CmdOk (c : Cmd) : Bool :=
  if c.1 = -1 then decide (c.1 = -1) && (decide (c.2.1 = 0) && (decide (c.2.2.1 = 0) && (decide (c.2.2.2.1 = 0) && (decide (c.2.2.2.2.1 = 0) && (decide (c.2.2.2.2.2.1 = 0) && (c.2.2.2.2.2.2.1 == [] && c.2.2.2.2.2.2.2.1 == []))))))
  else impl_within c.1 0 3 && (impl_within c.2.1 1 100000 && (impl_within c.2.2.1 1 10 && (impl_within c.2.2.2.1 0 100000 && (impl_within c.2.2.2.2.1 0 100000 && (impl_within c.2.2.2.2.2.1 0 100000 && (wordsOk c.2.2.2.2.2.2.1 && wordsOk c.2.2.2.2.2.2.2.1))))))
abbrev impl_CmdOk := CmdOk
abbrev spec_CmdOk := CmdOk
namespace impl_CmdOk
abbrev wf (x0 : Cmd) : Prop := wfA [(.val (.pair (.int .i64) (.pair (.int .i64) (.pair (.int .i64) (.pair (.int .i64) (.pair (.int .i64) (.pair (.int .i64) (.pair .str (.pair .str .unit)))))))) .f)] (x0, ())
noncomputable def raw (x0 : Cmd) : Option (Unit × (Bool × Unit)) :=
 if (decide (x0.1 = (-1 : Int))) = true then
  some ((), (((decide (x0.1 = (-1 : Int))) && ((decide (x0.2.1 = (0 : Int))) && ((decide (x0.2.2.1 = (0 : Int))) && ((decide (x0.2.2.2.1 = (0 : Int))) && ((decide (x0.2.2.2.2.1 = (0 : Int))) && ((decide (x0.2.2.2.2.2.1 = (0 : Int))) && ((x0.2.2.2.2.2.2.1 == ([] : List UInt8)) && (x0.2.2.2.2.2.2.2.1 == ([] : List UInt8))))))))), ()))
 else
  if (impl_within x0.1 (0 : Int) (3 : Int)) = true then
   if (impl_within x0.2.1 (1 : Int) (100000 : Int)) = true then
    if (impl_within x0.2.2.1 (1 : Int) (10 : Int)) = true then
     if (impl_within x0.2.2.2.1 (0 : Int) (100000 : Int)) = true then
      if (impl_within x0.2.2.2.2.1 (0 : Int) (100000 : Int)) = true then
       if (impl_within x0.2.2.2.2.2.1 (0 : Int) (100000 : Int)) = true then
        if (wordsOk x0.2.2.2.2.2.2.1) = true then
         some ((), ((wordsOk x0.2.2.2.2.2.2.2.1), ()))
        else
         some ((), (false, ()))
       else
        some ((), (false, ()))
      else
       some ((), (false, ()))
     else
      some ((), (false, ()))
    else
     some ((), (false, ()))
   else
    some ((), (false, ()))
  else
   some ((), (false, ()))
theorem eq (x0 : Cmd) (_ : wf x0) : raw x0 = some ((), (impl_CmdOk x0, ())) := by
  unfold raw impl_CmdOk CmdOk
  simp only [decide_eq_true_eq]
  split
  · rfl
  · cases impl_within x0.1 0 3 <;> simp only [Bool.false_eq_true, if_false, if_true, Bool.false_and, Bool.true_and]
    cases impl_within x0.2.1 1 100000 <;> simp only [Bool.false_eq_true, if_false, if_true, Bool.false_and, Bool.true_and]
    cases impl_within x0.2.2.1 1 10 <;> simp only [Bool.false_eq_true, if_false, if_true, Bool.false_and, Bool.true_and]
    cases impl_within x0.2.2.2.1 0 100000 <;> simp only [Bool.false_eq_true, if_false, if_true, Bool.false_and, Bool.true_and]
    cases impl_within x0.2.2.2.2.1 0 100000 <;> simp only [Bool.false_eq_true, if_false, if_true, Bool.false_and, Bool.true_and]
    cases impl_within x0.2.2.2.2.2.1 0 100000 <;> simp only [Bool.false_eq_true, if_false, if_true, Bool.false_and, Bool.true_and]
    cases wordsOk x0.2.2.2.2.2.2.1 <;> simp only [Bool.false_eq_true, if_false, if_true, Bool.false_and, Bool.true_and]
end impl_CmdOk
namespace spec_CmdOk
abbrev wf (x0 : Cmd) : Prop := wfA [(.val (.pair (.int .i64) (.pair (.int .i64) (.pair (.int .i64) (.pair (.int .i64) (.pair (.int .i64) (.pair (.int .i64) (.pair .str (.pair .str .unit)))))))) .f)] (x0, ())
noncomputable def raw (x0 : Cmd) : Option (Unit × (Bool × Unit)) :=
 if (decide (x0.1 = (-1 : Int))) = true then
  some ((), (((decide (x0.1 = (-1 : Int))) && ((decide (x0.2.1 = (0 : Int))) && ((decide (x0.2.2.1 = (0 : Int))) && ((decide (x0.2.2.2.1 = (0 : Int))) && ((decide (x0.2.2.2.2.1 = (0 : Int))) && ((decide (x0.2.2.2.2.2.1 = (0 : Int))) && ((x0.2.2.2.2.2.2.1 == ([] : List UInt8)) && (x0.2.2.2.2.2.2.2.1 == ([] : List UInt8))))))))), ()))
 else
  if (impl_within x0.1 (0 : Int) (3 : Int)) = true then
   if (impl_within x0.2.1 (1 : Int) (100000 : Int)) = true then
    if (impl_within x0.2.2.1 (1 : Int) (10 : Int)) = true then
     if (impl_within x0.2.2.2.1 (0 : Int) (100000 : Int)) = true then
      if (impl_within x0.2.2.2.2.1 (0 : Int) (100000 : Int)) = true then
       if (impl_within x0.2.2.2.2.2.1 (0 : Int) (100000 : Int)) = true then
        if (wordsOk x0.2.2.2.2.2.2.1) = true then
         some ((), ((wordsOk x0.2.2.2.2.2.2.2.1), ()))
        else
         some ((), (false, ()))
       else
        some ((), (false, ()))
      else
       some ((), (false, ()))
     else
      some ((), (false, ()))
    else
     some ((), (false, ()))
   else
    some ((), (false, ()))
  else
   some ((), (false, ()))
theorem eq (x0 : Cmd) (_ : wf x0) : raw x0 = some ((), (spec_CmdOk x0, ())) := by
  unfold raw spec_CmdOk CmdOk
  simp only [decide_eq_true_eq]
  split
  · rfl
  · cases impl_within x0.1 0 3 <;> simp only [Bool.false_eq_true, if_false, if_true, Bool.false_and, Bool.true_and]
    cases impl_within x0.2.1 1 100000 <;> simp only [Bool.false_eq_true, if_false, if_true, Bool.false_and, Bool.true_and]
    cases impl_within x0.2.2.1 1 10 <;> simp only [Bool.false_eq_true, if_false, if_true, Bool.false_and, Bool.true_and]
    cases impl_within x0.2.2.2.1 0 100000 <;> simp only [Bool.false_eq_true, if_false, if_true, Bool.false_and, Bool.true_and]
    cases impl_within x0.2.2.2.2.1 0 100000 <;> simp only [Bool.false_eq_true, if_false, if_true, Bool.false_and, Bool.true_and]
    cases impl_within x0.2.2.2.2.2.1 0 100000 <;> simp only [Bool.false_eq_true, if_false, if_true, Bool.false_and, Bool.true_and]
    cases wordsOk x0.2.2.2.2.2.2.1 <;> simp only [Bool.false_eq_true, if_false, if_true, Bool.false_and, Bool.true_and]
end spec_CmdOk
abbrev E0 : Entry := ((0 : Int), (((0 : Int), ((0 : Int), ((0 : Int), ((0 : Int), ((0 : Int), ((0 : Int), (([] : List UInt8), (([] : List UInt8), ())))))))), ()))
def digs (k : Nat) (out : List UInt8) : List UInt8 :=
  if k = 0 then out else digs (k / 10) (List.append (strOf (IntKind.wrap .u8 (IntKind.wrap .i64 (48 + Int.tmod (k : Int) 10)) :: ([] : List Int))) out)
termination_by k
decreasing_by omega
theorem digs_len (k : Nat) (out : List UInt8) : (digs k out).length ≤ k + out.length := by
  induction k using Nat.strongRecOn generalizing out with
  | ind k ih =>
    rw [digs]
    split
    · omega
    · rename_i h
      refine Nat.le_trans (ih (k / 10) (by omega) _) ?_
      simp only [List.append_eq, List.length_append, strOf, List.map_cons, List.map_nil, List.length_cons, List.length_nil]
      omega
def laws_markText (k : Int) : List UInt8 := if k ≤ 0 then [109, 48] else 109 :: digs k.toNat []
namespace laws_markText
def pre (k : Int) : Bool := decide (k ≤ 2147483648)
abbrev S := Int × (List UInt8 × Unit)
def pre4 : S → Bool := fun s => decide (0 ≤ s.1) && decide (s.1.toNat + s.2.1.length ≤ 4294967295)
def fn4 : S → List UInt8 × Unit := fun s => (digs s.1.toNat s.2.1, ())
def mu4 : S → Nat := fun s => s.1.toNat
noncomputable def raw4 (x1 : Int) (x2 : (List UInt8)) : Option ((Int × ((List UInt8) × Unit)) ⊕ ((List UInt8) × Unit)) :=
 if (decide ((0 : Int) < x1)) = true then
  if (!(decide ((10 : Int) = (0 : Int)))) = true then
   if (decide (List.length (strOf ((IntKind.wrap .u8 (IntKind.wrap .i64 ((48 : Int) + (Int.tmod x1 (10 : Int))))) :: ([] : List Int))) + List.length x2 ≤ lim)) = true then
    if (!(decide ((10 : Int) = (0 : Int)))) = true then
     some (.inl ((IntKind.wrap .i64 (Int.tdiv x1 (10 : Int))), ((List.append (strOf ((IntKind.wrap .u8 (IntKind.wrap .i64 ((48 : Int) + (Int.tmod x1 (10 : Int))))) :: ([] : List Int))) x2), ())))
    else
     none
   else
    none
  else
   none
 else
  some (.inr (x2, ()))
abbrev wf (x0 : Int) : Prop := wfA [(.val (.int .i64) .f)] (x0, ())
noncomputable def raw (x0 : Int) : Option (Unit × ((List UInt8) × Unit)) :=
 if (decide (x0 ≤ (0 : Int))) = true then
  some ((), (((109 : UInt8) :: ((48 : UInt8) :: ([] : List UInt8))), ()))
 else
  if (laws_markText.pre4 (x0, (([] : List UInt8), ()))) = true then
   if (decide (List.length ((109 : UInt8) :: ([] : List UInt8)) + List.length (laws_markText.fn4 (x0, (([] : List UInt8), ()))).1 ≤ lim)) = true then
    some ((), ((List.append ((109 : UInt8) :: ([] : List UInt8)) (laws_markText.fn4 (x0, (([] : List UInt8), ()))).1), ()))
   else
    none
  else
   none
theorem ok4 (x1 : Int) (x2 : List UInt8) (hp : pre4 (x1, (x2, ())) = true) : Rounds pre4 mu4 fn4 (x1, (x2, ())) (raw4 x1 x2) := by
  simp only [pre4, Bool.and_eq_true, decide_eq_true_eq] at hp
  obtain ⟨h1, h2⟩ := hp
  unfold raw4
  by_cases h : 0 < x1
  · have hd : Int.tdiv x1 10 = x1 / 10 := Int.tdiv_eq_ediv_of_nonneg h1
    have hn : ((x1.toNat : Nat) : Int) = x1 := Int.toNat_of_nonneg h1
    rw [if_pos (by simp [h]), if_pos (by decide), if_pos (by simp only [strOf, List.map_cons, List.map_nil, List.length_cons, List.length_nil, decide_eq_true_eq, lim]; omega), if_pos (by decide), hd, w64 (by omega) (by omega)]
    simp only [Rounds]
    refine ⟨?_, by simp only [mu4]; omega, ?_⟩
    · simp only [pre4, Bool.and_eq_true, decide_eq_true_eq, List.append_eq, List.length_append, strOf, List.map_cons, List.map_nil, List.length_cons, List.length_nil]
      omega
    · simp only [fn4]
      conv => rhs; rw [digs, if_neg (by omega), hn]
      rw [show (x1 / 10).toNat = x1.toNat / 10 by omega]
  · rw [if_neg (by simp [h])]
    simp only [Rounds, fn4]
    rw [show x1.toNat = 0 by omega, digs, if_pos rfl]
theorem eq (x0 : Int) (_ : wf x0) (hp : pre x0 = true) : raw x0 = some ((), (laws_markText x0, ())) := by
  simp only [pre, decide_eq_true_eq] at hp
  unfold raw laws_markText
  by_cases h : x0 ≤ 0
  · simp [h]
  · have hl := digs_len x0.toNat []
    simp only [List.length_nil, Nat.add_zero] at hl
    have hl' : (fn4 (x0, (([] : List UInt8), ()))).1.length ≤ x0.toNat := hl
    rw [if_neg (by simp [h]), if_pos (show pre4 _ = true by simp only [pre4, Bool.and_eq_true, decide_eq_true_eq, List.length_nil]; omega), if_pos (by rw [decide_eq_true_eq]; simp only [List.length_cons, List.length_nil, lim]; omega), if_neg h]
    rfl
end laws_markText
def mE (k : Int) : Entry := (k, ((k + 1, (k + 1 + 1, (k + 1 + 1 + 1, (k + 1 + 1 + 1 + 1, (k + 1 + 1 + 1 + 1 + 1, (k + 1 + 1 + 1 + 1 + 1 + 1, (laws_markText (k + 1 + 1 + 1 + 1 + 1 + 1 + 1), (laws_markText (k + 1 + 1 + 1 + 1 + 1 + 1 + 1 + 1), ())))))))), ()))
def markEL : Nat → Int → List Entry
  | 0, _ => []
  | n + 1, k => mE k :: markEL n (k + 1 + 1 + 1 + 1 + 1 + 1 + 1 + 1 + 1)
def laws_markEntryS (xs : List Entry) (k : Int) : List Entry × Int := (markEL xs.length k, k + 9 * xs.length)
namespace laws_markEntryS
def pre (xs : List Entry) (k : Int) : Bool := small xs && (decide (0 ≤ k) && decide (k ≤ 1073741824))
abbrev S := Int × (Int × (List Entry × Unit))
def pre2 : S → Bool := fun s => decide (s.2.2.1.length ≤ 16777216) && (decide (0 ≤ s.2.1) && (decide (s.2.1.toNat ≤ s.2.2.1.length) && (decide (0 ≤ s.1) && decide (s.1 + 9 * (s.2.2.1.length - s.2.1) ≤ 2147483600))))
def fn2 : S → Int × (List Entry × Unit) := fun s => (s.1 + 9 * (s.2.2.1.length - s.2.1), (s.2.2.1.take s.2.1.toNat ++ markEL (s.2.2.1.length - s.2.1.toNat) s.1, ()))
def mu2 : S → Nat := fun s => s.2.2.1.length - s.2.1.toNat
noncomputable def raw2 (x1 : Int) (x2 : Int) (x3 : (List Entry)) : Option (Log ⊕ (Int × ((List Entry) × Unit))) :=
 if (decide (x2 < ((List.length x3 : Nat) : Int))) = true then
  if (decide ((0 : Int) ≤ x2)) = true then
   if (decide (x2 < ((List.length x3 : Nat) : Int))) = true then
    if (decide ((0 : Int) ≤ x2)) = true then
     if (decide (x2 < ((List.length (List.modify x3 (Int.toNat x2) (fun z => (x1, z.2))) : Nat) : Int))) = true then
      if (decide ((0 : Int) ≤ x2)) = true then
       if (decide (x2 < ((List.length (List.modify (List.modify x3 (Int.toNat x2) (fun z => (x1, z.2))) (Int.toNat x2) (fun z => (z.1, (((IntKind.wrap .i64 (x1 + (1 : Int))), z.2.1.2), z.2.2)))) : Nat) : Int))) = true then
        if (decide ((0 : Int) ≤ x2)) = true then
         if (decide (x2 < ((List.length (List.modify (List.modify (List.modify x3 (Int.toNat x2) (fun z => (x1, z.2))) (Int.toNat x2) (fun z => (z.1, (((IntKind.wrap .i64 (x1 + (1 : Int))), z.2.1.2), z.2.2)))) (Int.toNat x2) (fun z => (z.1, ((z.2.1.1, ((IntKind.wrap .i64 ((IntKind.wrap .i64 (x1 + (1 : Int))) + (1 : Int))), z.2.1.2.2)), z.2.2)))) : Nat) : Int))) = true then
          if (decide ((0 : Int) ≤ x2)) = true then
           if (decide (x2 < ((List.length (List.modify (List.modify (List.modify (List.modify x3 (Int.toNat x2) (fun z => (x1, z.2))) (Int.toNat x2) (fun z => (z.1, (((IntKind.wrap .i64 (x1 + (1 : Int))), z.2.1.2), z.2.2)))) (Int.toNat x2) (fun z => (z.1, ((z.2.1.1, ((IntKind.wrap .i64 ((IntKind.wrap .i64 (x1 + (1 : Int))) + (1 : Int))), z.2.1.2.2)), z.2.2)))) (Int.toNat x2) (fun z => (z.1, ((z.2.1.1, (z.2.1.2.1, ((IntKind.wrap .i64 ((IntKind.wrap .i64 ((IntKind.wrap .i64 (x1 + (1 : Int))) + (1 : Int))) + (1 : Int))), z.2.1.2.2.2))), z.2.2)))) : Nat) : Int))) = true then
            if (decide ((0 : Int) ≤ x2)) = true then
             if (decide (x2 < ((List.length (List.modify (List.modify (List.modify (List.modify (List.modify x3 (Int.toNat x2) (fun z => (x1, z.2))) (Int.toNat x2) (fun z => (z.1, (((IntKind.wrap .i64 (x1 + (1 : Int))), z.2.1.2), z.2.2)))) (Int.toNat x2) (fun z => (z.1, ((z.2.1.1, ((IntKind.wrap .i64 ((IntKind.wrap .i64 (x1 + (1 : Int))) + (1 : Int))), z.2.1.2.2)), z.2.2)))) (Int.toNat x2) (fun z => (z.1, ((z.2.1.1, (z.2.1.2.1, ((IntKind.wrap .i64 ((IntKind.wrap .i64 ((IntKind.wrap .i64 (x1 + (1 : Int))) + (1 : Int))) + (1 : Int))), z.2.1.2.2.2))), z.2.2)))) (Int.toNat x2) (fun z => (z.1, ((z.2.1.1, (z.2.1.2.1, (z.2.1.2.2.1, ((IntKind.wrap .i64 ((IntKind.wrap .i64 ((IntKind.wrap .i64 ((IntKind.wrap .i64 (x1 + (1 : Int))) + (1 : Int))) + (1 : Int))) + (1 : Int))), z.2.1.2.2.2.2)))), z.2.2)))) : Nat) : Int))) = true then
              if (decide ((0 : Int) ≤ x2)) = true then
               if (decide (x2 < ((List.length (List.modify (List.modify (List.modify (List.modify (List.modify (List.modify x3 (Int.toNat x2) (fun z => (x1, z.2))) (Int.toNat x2) (fun z => (z.1, (((IntKind.wrap .i64 (x1 + (1 : Int))), z.2.1.2), z.2.2)))) (Int.toNat x2) (fun z => (z.1, ((z.2.1.1, ((IntKind.wrap .i64 ((IntKind.wrap .i64 (x1 + (1 : Int))) + (1 : Int))), z.2.1.2.2)), z.2.2)))) (Int.toNat x2) (fun z => (z.1, ((z.2.1.1, (z.2.1.2.1, ((IntKind.wrap .i64 ((IntKind.wrap .i64 ((IntKind.wrap .i64 (x1 + (1 : Int))) + (1 : Int))) + (1 : Int))), z.2.1.2.2.2))), z.2.2)))) (Int.toNat x2) (fun z => (z.1, ((z.2.1.1, (z.2.1.2.1, (z.2.1.2.2.1, ((IntKind.wrap .i64 ((IntKind.wrap .i64 ((IntKind.wrap .i64 ((IntKind.wrap .i64 (x1 + (1 : Int))) + (1 : Int))) + (1 : Int))) + (1 : Int))), z.2.1.2.2.2.2)))), z.2.2)))) (Int.toNat x2) (fun z => (z.1, ((z.2.1.1, (z.2.1.2.1, (z.2.1.2.2.1, (z.2.1.2.2.2.1, ((IntKind.wrap .i64 ((IntKind.wrap .i64 ((IntKind.wrap .i64 ((IntKind.wrap .i64 ((IntKind.wrap .i64 (x1 + (1 : Int))) + (1 : Int))) + (1 : Int))) + (1 : Int))) + (1 : Int))), z.2.1.2.2.2.2.2))))), z.2.2)))) : Nat) : Int))) = true then
                if (laws_markText.pre (IntKind.wrap .i64 ((IntKind.wrap .i64 ((IntKind.wrap .i64 ((IntKind.wrap .i64 ((IntKind.wrap .i64 ((IntKind.wrap .i64 ((IntKind.wrap .i64 (x1 + (1 : Int))) + (1 : Int))) + (1 : Int))) + (1 : Int))) + (1 : Int))) + (1 : Int))) + (1 : Int)))) = true then
                 if (decide ((0 : Int) ≤ x2)) = true then
                  if (decide (x2 < ((List.length (List.modify (List.modify (List.modify (List.modify (List.modify (List.modify (List.modify x3 (Int.toNat x2) (fun z => (x1, z.2))) (Int.toNat x2) (fun z => (z.1, (((IntKind.wrap .i64 (x1 + (1 : Int))), z.2.1.2), z.2.2)))) (Int.toNat x2) (fun z => (z.1, ((z.2.1.1, ((IntKind.wrap .i64 ((IntKind.wrap .i64 (x1 + (1 : Int))) + (1 : Int))), z.2.1.2.2)), z.2.2)))) (Int.toNat x2) (fun z => (z.1, ((z.2.1.1, (z.2.1.2.1, ((IntKind.wrap .i64 ((IntKind.wrap .i64 ((IntKind.wrap .i64 (x1 + (1 : Int))) + (1 : Int))) + (1 : Int))), z.2.1.2.2.2))), z.2.2)))) (Int.toNat x2) (fun z => (z.1, ((z.2.1.1, (z.2.1.2.1, (z.2.1.2.2.1, ((IntKind.wrap .i64 ((IntKind.wrap .i64 ((IntKind.wrap .i64 ((IntKind.wrap .i64 (x1 + (1 : Int))) + (1 : Int))) + (1 : Int))) + (1 : Int))), z.2.1.2.2.2.2)))), z.2.2)))) (Int.toNat x2) (fun z => (z.1, ((z.2.1.1, (z.2.1.2.1, (z.2.1.2.2.1, (z.2.1.2.2.2.1, ((IntKind.wrap .i64 ((IntKind.wrap .i64 ((IntKind.wrap .i64 ((IntKind.wrap .i64 ((IntKind.wrap .i64 (x1 + (1 : Int))) + (1 : Int))) + (1 : Int))) + (1 : Int))) + (1 : Int))), z.2.1.2.2.2.2.2))))), z.2.2)))) (Int.toNat x2) (fun z => (z.1, ((z.2.1.1, (z.2.1.2.1, (z.2.1.2.2.1, (z.2.1.2.2.2.1, (z.2.1.2.2.2.2.1, ((IntKind.wrap .i64 ((IntKind.wrap .i64 ((IntKind.wrap .i64 ((IntKind.wrap .i64 ((IntKind.wrap .i64 ((IntKind.wrap .i64 (x1 + (1 : Int))) + (1 : Int))) + (1 : Int))) + (1 : Int))) + (1 : Int))) + (1 : Int))), z.2.1.2.2.2.2.2.2)))))), z.2.2)))) : Nat) : Int))) = true then
                   if (laws_markText.pre (IntKind.wrap .i64 ((IntKind.wrap .i64 ((IntKind.wrap .i64 ((IntKind.wrap .i64 ((IntKind.wrap .i64 ((IntKind.wrap .i64 ((IntKind.wrap .i64 ((IntKind.wrap .i64 (x1 + (1 : Int))) + (1 : Int))) + (1 : Int))) + (1 : Int))) + (1 : Int))) + (1 : Int))) + (1 : Int))) + (1 : Int)))) = true then
                    if (decide ((0 : Int) ≤ x2)) = true then
                     if (decide (x2 < ((List.length (List.modify (List.modify (List.modify (List.modify (List.modify (List.modify (List.modify (List.modify x3 (Int.toNat x2) (fun z => (x1, z.2))) (Int.toNat x2) (fun z => (z.1, (((IntKind.wrap .i64 (x1 + (1 : Int))), z.2.1.2), z.2.2)))) (Int.toNat x2) (fun z => (z.1, ((z.2.1.1, ((IntKind.wrap .i64 ((IntKind.wrap .i64 (x1 + (1 : Int))) + (1 : Int))), z.2.1.2.2)), z.2.2)))) (Int.toNat x2) (fun z => (z.1, ((z.2.1.1, (z.2.1.2.1, ((IntKind.wrap .i64 ((IntKind.wrap .i64 ((IntKind.wrap .i64 (x1 + (1 : Int))) + (1 : Int))) + (1 : Int))), z.2.1.2.2.2))), z.2.2)))) (Int.toNat x2) (fun z => (z.1, ((z.2.1.1, (z.2.1.2.1, (z.2.1.2.2.1, ((IntKind.wrap .i64 ((IntKind.wrap .i64 ((IntKind.wrap .i64 ((IntKind.wrap .i64 (x1 + (1 : Int))) + (1 : Int))) + (1 : Int))) + (1 : Int))), z.2.1.2.2.2.2)))), z.2.2)))) (Int.toNat x2) (fun z => (z.1, ((z.2.1.1, (z.2.1.2.1, (z.2.1.2.2.1, (z.2.1.2.2.2.1, ((IntKind.wrap .i64 ((IntKind.wrap .i64 ((IntKind.wrap .i64 ((IntKind.wrap .i64 ((IntKind.wrap .i64 (x1 + (1 : Int))) + (1 : Int))) + (1 : Int))) + (1 : Int))) + (1 : Int))), z.2.1.2.2.2.2.2))))), z.2.2)))) (Int.toNat x2) (fun z => (z.1, ((z.2.1.1, (z.2.1.2.1, (z.2.1.2.2.1, (z.2.1.2.2.2.1, (z.2.1.2.2.2.2.1, ((IntKind.wrap .i64 ((IntKind.wrap .i64 ((IntKind.wrap .i64 ((IntKind.wrap .i64 ((IntKind.wrap .i64 ((IntKind.wrap .i64 (x1 + (1 : Int))) + (1 : Int))) + (1 : Int))) + (1 : Int))) + (1 : Int))) + (1 : Int))), z.2.1.2.2.2.2.2.2)))))), z.2.2)))) (Int.toNat x2) (fun z => (z.1, ((z.2.1.1, (z.2.1.2.1, (z.2.1.2.2.1, (z.2.1.2.2.2.1, (z.2.1.2.2.2.2.1, (z.2.1.2.2.2.2.2.1, ((laws_markText (IntKind.wrap .i64 ((IntKind.wrap .i64 ((IntKind.wrap .i64 ((IntKind.wrap .i64 ((IntKind.wrap .i64 ((IntKind.wrap .i64 ((IntKind.wrap .i64 (x1 + (1 : Int))) + (1 : Int))) + (1 : Int))) + (1 : Int))) + (1 : Int))) + (1 : Int))) + (1 : Int)))), z.2.1.2.2.2.2.2.2.2))))))), z.2.2)))) : Nat) : Int))) = true then
                      some (.inl ((IntKind.wrap .i64 ((IntKind.wrap .i64 ((IntKind.wrap .i64 ((IntKind.wrap .i64 ((IntKind.wrap .i64 ((IntKind.wrap .i64 ((IntKind.wrap .i64 ((IntKind.wrap .i64 ((IntKind.wrap .i64 (x1 + (1 : Int))) + (1 : Int))) + (1 : Int))) + (1 : Int))) + (1 : Int))) + (1 : Int))) + (1 : Int))) + (1 : Int))) + (1 : Int))), ((IntKind.wrap .i64 (x2 + (1 : Int))), ((List.modify (List.modify (List.modify (List.modify (List.modify (List.modify (List.modify (List.modify (List.modify x3 (Int.toNat x2) (fun z => (x1, z.2))) (Int.toNat x2) (fun z => (z.1, (((IntKind.wrap .i64 (x1 + (1 : Int))), z.2.1.2), z.2.2)))) (Int.toNat x2) (fun z => (z.1, ((z.2.1.1, ((IntKind.wrap .i64 ((IntKind.wrap .i64 (x1 + (1 : Int))) + (1 : Int))), z.2.1.2.2)), z.2.2)))) (Int.toNat x2) (fun z => (z.1, ((z.2.1.1, (z.2.1.2.1, ((IntKind.wrap .i64 ((IntKind.wrap .i64 ((IntKind.wrap .i64 (x1 + (1 : Int))) + (1 : Int))) + (1 : Int))), z.2.1.2.2.2))), z.2.2)))) (Int.toNat x2) (fun z => (z.1, ((z.2.1.1, (z.2.1.2.1, (z.2.1.2.2.1, ((IntKind.wrap .i64 ((IntKind.wrap .i64 ((IntKind.wrap .i64 ((IntKind.wrap .i64 (x1 + (1 : Int))) + (1 : Int))) + (1 : Int))) + (1 : Int))), z.2.1.2.2.2.2)))), z.2.2)))) (Int.toNat x2) (fun z => (z.1, ((z.2.1.1, (z.2.1.2.1, (z.2.1.2.2.1, (z.2.1.2.2.2.1, ((IntKind.wrap .i64 ((IntKind.wrap .i64 ((IntKind.wrap .i64 ((IntKind.wrap .i64 ((IntKind.wrap .i64 (x1 + (1 : Int))) + (1 : Int))) + (1 : Int))) + (1 : Int))) + (1 : Int))), z.2.1.2.2.2.2.2))))), z.2.2)))) (Int.toNat x2) (fun z => (z.1, ((z.2.1.1, (z.2.1.2.1, (z.2.1.2.2.1, (z.2.1.2.2.2.1, (z.2.1.2.2.2.2.1, ((IntKind.wrap .i64 ((IntKind.wrap .i64 ((IntKind.wrap .i64 ((IntKind.wrap .i64 ((IntKind.wrap .i64 ((IntKind.wrap .i64 (x1 + (1 : Int))) + (1 : Int))) + (1 : Int))) + (1 : Int))) + (1 : Int))) + (1 : Int))), z.2.1.2.2.2.2.2.2)))))), z.2.2)))) (Int.toNat x2) (fun z => (z.1, ((z.2.1.1, (z.2.1.2.1, (z.2.1.2.2.1, (z.2.1.2.2.2.1, (z.2.1.2.2.2.2.1, (z.2.1.2.2.2.2.2.1, ((laws_markText (IntKind.wrap .i64 ((IntKind.wrap .i64 ((IntKind.wrap .i64 ((IntKind.wrap .i64 ((IntKind.wrap .i64 ((IntKind.wrap .i64 ((IntKind.wrap .i64 (x1 + (1 : Int))) + (1 : Int))) + (1 : Int))) + (1 : Int))) + (1 : Int))) + (1 : Int))) + (1 : Int)))), z.2.1.2.2.2.2.2.2.2))))))), z.2.2)))) (Int.toNat x2) (fun z => (z.1, ((z.2.1.1, (z.2.1.2.1, (z.2.1.2.2.1, (z.2.1.2.2.2.1, (z.2.1.2.2.2.2.1, (z.2.1.2.2.2.2.2.1, (z.2.1.2.2.2.2.2.2.1, ((laws_markText (IntKind.wrap .i64 ((IntKind.wrap .i64 ((IntKind.wrap .i64 ((IntKind.wrap .i64 ((IntKind.wrap .i64 ((IntKind.wrap .i64 ((IntKind.wrap .i64 ((IntKind.wrap .i64 (x1 + (1 : Int))) + (1 : Int))) + (1 : Int))) + (1 : Int))) + (1 : Int))) + (1 : Int))) + (1 : Int))) + (1 : Int)))), z.2.1.2.2.2.2.2.2.2.2)))))))), z.2.2)))), ()))))
                     else
                      none
                    else
                     none
                   else
                    none
                  else
                   none
                 else
                  none
                else
                 none
               else
                none
              else
               none
             else
              none
            else
             none
           else
            none
          else
           none
         else
          none
        else
         none
       else
        none
      else
       none
     else
      none
    else
     none
   else
    none
  else
   none
 else
  some (.inr (x1, (x3, ())))
abbrev wf (x0 : (List Entry)) (x1 : Int) : Prop := wfA [(.mut (.sl 0 (.pair (.int .i64) (.pair (.pair (.int .i64) (.pair (.int .i64) (.pair (.int .i64) (.pair (.int .i64) (.pair (.int .i64) (.pair (.int .i64) (.pair .str (.pair .str .unit)))))))) .unit)))), (.val (.int .i64) .f)] (x0, (x1, ()))
noncomputable def raw (x0 : (List Entry)) (x1 : Int) : Option (((List Entry) × Unit) × (Int × Unit)) :=
 if (laws_markEntryS.pre2 (x1, ((0 : Int), (x0, ())))) = true then
  some ((laws_markEntryS.fn2 (x1, ((0 : Int), (x0, ())))).2, ((laws_markEntryS.fn2 (x1, ((0 : Int), (x0, ())))).1, ()))
 else
  none
theorem ok2 (x1 x2 : Int) (x3 : List Entry) (hp : pre2 (x1, (x2, (x3, ()))) = true) : Rounds pre2 mu2 fn2 (x1, (x2, (x3, ()))) (raw2 x1 x2 x3) := by
  simp only [pre2, Bool.and_eq_true, decide_eq_true_eq] at hp
  obtain ⟨h1, h2, h3, h4, h5⟩ := hp
  unfold raw2
  by_cases hlt : x2 < (x3.length : Int)
  · have hn : x2.toNat < x3.length := by omega
    have w1 : IntKind.wrap .i64 (x1 + 1) = x1 + 1 := w64 (by omega) (by omega)
    have w2 : IntKind.wrap .i64 (x1 + 1 + 1) = x1 + 1 + 1 := w64 (by omega) (by omega)
    have w3 : IntKind.wrap .i64 (x1 + 1 + 1 + 1) = x1 + 1 + 1 + 1 := w64 (by omega) (by omega)
    have w4 : IntKind.wrap .i64 (x1 + 1 + 1 + 1 + 1) = x1 + 1 + 1 + 1 + 1 := w64 (by omega) (by omega)
    have w5 : IntKind.wrap .i64 (x1 + 1 + 1 + 1 + 1 + 1) = x1 + 1 + 1 + 1 + 1 + 1 := w64 (by omega) (by omega)
    have w6 : IntKind.wrap .i64 (x1 + 1 + 1 + 1 + 1 + 1 + 1) = x1 + 1 + 1 + 1 + 1 + 1 + 1 := w64 (by omega) (by omega)
    have w7 : IntKind.wrap .i64 (x1 + 1 + 1 + 1 + 1 + 1 + 1 + 1) = x1 + 1 + 1 + 1 + 1 + 1 + 1 + 1 := w64 (by omega) (by omega)
    have w8 : IntKind.wrap .i64 (x1 + 1 + 1 + 1 + 1 + 1 + 1 + 1 + 1) = x1 + 1 + 1 + 1 + 1 + 1 + 1 + 1 + 1 := w64 (by omega) (by omega)
    have w9 : IntKind.wrap .i64 (x1 + 1 + 1 + 1 + 1 + 1 + 1 + 1 + 1 + 1) = x1 + 1 + 1 + 1 + 1 + 1 + 1 + 1 + 1 + 1 := w64 (by omega) (by omega)
    have p7 : laws_markText.pre (x1 + 1 + 1 + 1 + 1 + 1 + 1 + 1) = true := by simp only [laws_markText.pre, decide_eq_true_eq]; omega
    have p8 : laws_markText.pre (x1 + 1 + 1 + 1 + 1 + 1 + 1 + 1 + 1) = true := by simp only [laws_markText.pre, decide_eq_true_eq]; omega
    simp only [List.length_modify, hlt, h2, decide_true, if_true, w1, w2, w3, w4, w5, w6, w7, w8, w9, p7, p8, w64 (n := x2 + 1) (by omega) (by omega)]
    simp only [List.modify_modify_eq]
    have hm := modify_const x3 x2.toNat (mE x1)
    refine (?_ : Rounds pre2 mu2 fn2 (x1, (x2, (x3, ()))) (some (.inl (x1 + 1 + 1 + 1 + 1 + 1 + 1 + 1 + 1 + 1, (x2 + 1, (x3.modify x2.toNat (fun _ => mE x1), ()))))))
    rw [hm]
    simp only [Rounds]
    refine ⟨?_, by simp only [mu2, List.length_set]; omega, ?_⟩
    · simp only [pre2, Bool.and_eq_true, decide_eq_true_eq, List.length_set]
      omega
    · simp only [fn2, List.length_set, show (x2 + 1).toNat = x2.toNat + 1 by omega]
      rw [show x3.length - x2.toNat = (x3.length - (x2.toNat + 1)) + 1 by omega]
      simp only [markEL]
      rw [List.take_add_one, List.take_set_of_le (by omega), List.getElem?_set_self (by omega)]
      refine Prod.ext (by show _ = _; omega) (Prod.ext ?_ rfl)
      simp
  · simp only [hlt, decide_false, Bool.false_eq_true, if_false, Rounds, fn2]
    rw [show x3.length - x2.toNat = 0 by omega, show x2.toNat = x3.length by omega]
    refine Prod.ext (by show _ = _; omega) (Prod.ext ?_ rfl)
    simp [markEL]
theorem eq (x0 : List Entry) (x1 : Int) (_ : wf x0 x1) (hp : pre x0 x1 = true) : raw x0 x1 = some (((laws_markEntryS x0 x1).1, ()), ((laws_markEntryS x0 x1).2, ())) := by
  simp only [pre, Bool.and_eq_true, decide_eq_true_eq, small_iff] at hp
  unfold raw laws_markEntryS
  rw [if_pos (show pre2 _ = true by simp only [pre2, Bool.and_eq_true, decide_eq_true_eq]; simp; omega)]
  simp [fn2]
end laws_markEntryS
section
variable {α : Type}
def idxF (g : α → Bool) : List α → Int → Int
  | [], _ => -1
  | a :: r, i => if g a = true then i else idxF g r (i + 1)
theorem idxF_lo (g : α → Bool) : (xs : List α) → (i : Int) → 0 ≤ i → -1 ≤ idxF g xs i ∧ (0 ≤ idxF g xs i ↔ xs.any g = true)
  | [], i, h => by simp [idxF]
  | a :: r, i, h => by
    simp only [idxF, List.any_cons]
    by_cases ha : g a = true
    · simp [ha]; omega
    · have := idxF_lo g r (i + 1) (by omega)
      simp only [Bool.not_eq_true] at ha
      simp only [ha, Bool.false_eq_true, if_false, Bool.false_or]
      exact this
abbrev IxS (α : Type) := List α × ((α → Bool) × ((α → Bool) × (Int × (Int × Unit))))
def ixPre : IxS α → Bool := fun s => decide (s.1.length ≤ maxLen) && (decide (s.2.2.2.1 = (s.1.length : Int)) && (decide (0 ≤ s.2.2.2.2.1) && (decide (s.2.2.2.2.1.toNat ≤ s.1.length) && s.1.all s.2.1)))
def ixFn : IxS α → (Int × Unit) ⊕ Unit := fun s => if idxF s.2.2.1 (s.1.drop s.2.2.2.2.1.toNat) s.2.2.2.2.1 < 0 then .inr () else .inl (idxF s.2.2.1 (s.1.drop s.2.2.2.2.1.toNat) s.2.2.2.2.1, ())
def ixMu : IxS α → Nat := fun s => s.1.length - s.2.2.2.2.1.toNat
theorem ix_next {x1 : List α} {x2 x3 : α → Bool} {x4 x5 : Int} (hp : ixPre (x1, (x2, (x3, (x4, (x5, ()))))) = true) (hlt : x5 < x4) (d : α) :
    0 ≤ x5 ∧ x5 < (x1.length : Int) ∧ x2 (x1.getD x5.toNat d) = true ∧ (x3 (x1.getD x5.toNat d) = true → Rounds ixPre ixMu ixFn (x1, (x2, (x3, (x4, (x5, ()))))) (some (.inr (.inl (x5, ()))))) ∧
      (¬ x3 (x1.getD x5.toNat d) = true → Rounds ixPre ixMu ixFn (x1, (x2, (x3, (x4, (x5, ()))))) (some (.inl (x1, (x2, (x3, (x4, (IntKind.wrap .i64 (x5 + 1), ())))))))) := by
  simp only [ixPre, Bool.and_eq_true, decide_eq_true_eq] at hp
  obtain ⟨h1, rfl, h3, h4, h5⟩ := hp
  have hM := maxLen_eq
  have hn : x5.toNat < x1.length := by omega
  have e1 := List.drop_eq_getElem_cons hn
  rw [getD_get hn]
  refine ⟨h3, hlt, List.all_eq_true.1 h5 _ (List.getElem_mem hn), fun he => ?_, fun he => ?_⟩
  · simp only [Rounds, ixFn, e1, idxF, he, if_true]
    rw [if_neg (by omega)]
  · simp only [Rounds, w64 (n := x5 + 1) (by omega) (by omega)]
    refine ⟨?_, by simp only [ixMu]; omega, ?_⟩
    · simp only [ixPre, Bool.and_eq_true, decide_eq_true_eq]
      exact ⟨h1, trivial, by omega, by omega, h5⟩
    · simp only [ixFn, show (x5 + 1).toNat = x5.toNat + 1 by omega, e1, idxF, he, if_false]
      rfl
theorem ix_end {x1 : List α} {x2 x3 : α → Bool} {x4 x5 : Int} (hp : ixPre (x1, (x2, (x3, (x4, (x5, ()))))) = true) (hlt : ¬ x5 < x4) :
    Rounds ixPre ixMu ixFn (x1, (x2, (x3, (x4, (x5, ()))))) (some (.inr (.inr ()))) := by
  simp only [ixPre, Bool.and_eq_true, decide_eq_true_eq] at hp
  obtain ⟨h1, rfl, h3, h4, h5⟩ := hp
  simp only [Rounds, ixFn]
  rw [List.drop_eq_nil_of_le (by omega)]
  rfl
end
def slices_IndexFunc_Entry (xs : List Entry) (p : (Entry → Bool) × (Entry → Bool)) : Int := idxF p.2 xs 0
namespace slices_IndexFunc_Entry
def pre (xs : List Entry) (p : (Entry → Bool) × (Entry → Bool)) : Bool := xs.all p.1
def pre2 := ixPre (α := Entry)
def fn2 := ixFn (α := Entry)
def mu2 := ixMu (α := Entry)
noncomputable def raw2 (x1 : (List Entry)) (x2 : (Entry → Bool)) (x3 : (Entry → Bool)) (x4 : Int) (x5 : Int) : Option (((List Entry) × ((Entry → Bool) × ((Entry → Bool) × Mark))) ⊕ ((Int × Unit) ⊕ Unit)) :=
 if (decide (x5 < x4)) = true then
  if (decide ((0 : Int) ≤ x5)) = true then
   if (decide (x5 < ((List.length x1 : Nat) : Int))) = true then
    if (x2 (List.getD x1 (Int.toNat x5) ((0 : Int), (((0 : Int), ((0 : Int), ((0 : Int), ((0 : Int), ((0 : Int), ((0 : Int), (([] : List UInt8), (([] : List UInt8), ())))))))), ())))) = true then
     if (x3 (List.getD x1 (Int.toNat x5) ((0 : Int), (((0 : Int), ((0 : Int), ((0 : Int), ((0 : Int), ((0 : Int), ((0 : Int), (([] : List UInt8), (([] : List UInt8), ())))))))), ())))) = true then
      some (.inr (.inl (x5, ())))
     else
      some (.inl (x1, (x2, (x3, (x4, ((IntKind.wrap .i64 (x5 + (1 : Int))), ()))))))
    else
     none
   else
    none
  else
   none
 else
  some (.inr (.inr ()))
abbrev wf (x0 : (List Entry)) (x1 : ((Entry → Bool) × (Entry → Bool))) : Prop := wfA [(.val (.sl 0 (.pair (.int .i64) (.pair (.pair (.int .i64) (.pair (.int .i64) (.pair (.int .i64) (.pair (.int .i64) (.pair (.int .i64) (.pair (.int .i64) (.pair .str (.pair .str .unit)))))))) .unit))) .f), (.fn (.pair (.int .i64) (.pair (.pair (.int .i64) (.pair (.int .i64) (.pair (.int .i64) (.pair (.int .i64) (.pair (.int .i64) (.pair (.int .i64) (.pair .str (.pair .str .unit)))))))) .unit)) .bool)] (x0, (x1, ()))
noncomputable def raw (x0 : (List Entry)) (x1 : ((Entry → Bool) × (Entry → Bool))) : Option (Unit × (Int × Unit)) :=
 if (slices_IndexFunc_Entry.pre2 (x0, (x1.1, (x1.2, (((List.length x0 : Nat) : Int), ((0 : Int), ())))))) = true then
  match (slices_IndexFunc_Entry.fn2 (x0, (x1.1, (x1.2, (((List.length x0 : Nat) : Int), ((0 : Int), ())))))) with
  | .inl y =>
   some ((), y)
  | .inr y =>
   some ((), ((-1 : Int), ()))
 else
  none
theorem ok2 (x1 : List Entry) (x2 x3 : Entry → Bool) (x4 x5 : Int) (hp : pre2 (x1, (x2, (x3, (x4, (x5, ()))))) = true) : Rounds pre2 mu2 fn2 (x1, (x2, (x3, (x4, (x5, ()))))) (raw2 x1 x2 x3 x4 x5) := by
  unfold raw2
  by_cases hlt : x5 < x4
  · obtain ⟨h1, h2, h3, h4, h5⟩ := ix_next hp hlt E0
    simp only [hlt, h1, h2, h3, decide_true, if_true]
    split
    · rename_i h; exact h4 h
    · rename_i h; exact h5 h
  · simp only [hlt, decide_false, Bool.false_eq_true, if_false]
    exact ix_end hp hlt
theorem eq (x0 : List Entry) (x1 : (Entry → Bool) × (Entry → Bool)) (hw : wf x0 x1) (hp : pre x0 x1 = true) : raw x0 x1 = some ((), (slices_IndexFunc_Entry x0 x1, ())) := by
  have h1 : x0.length ≤ maxLen := hw.1.1
  unfold raw
  rw [if_pos (show pre2 _ = true by simp only [pre2, ixPre, Bool.and_eq_true, decide_eq_true_eq]; exact ⟨h1, trivial, by omega, by simp, hp⟩)]
  have hlo := (idxF_lo x1.2 x0 0 (by omega)).1
  by_cases h : idxF x1.2 x0 0 < 0
  · have hf : fn2 (x0, (x1.1, (x1.2, (((x0.length : Nat) : Int), ((0 : Int), ()))))) = .inr () := if_pos h
    rw [hf]
    show _ = some ((), (idxF x1.2 x0 0, ()))
    rw [show idxF x1.2 x0 0 = -1 by omega]
  · have hf : fn2 (x0, (x1.1, (x1.2, (((x0.length : Nat) : Int), ((0 : Int), ()))))) = .inl (idxF x1.2 x0 0, ()) := if_neg h
    rw [hf]; rfl
end slices_IndexFunc_Entry
def slices_ContainsFunc_Entry (xs : List Entry) (p : (Entry → Bool) × (Entry → Bool)) : Bool := xs.any p.2
namespace slices_ContainsFunc_Entry
def pre (xs : List Entry) (p : (Entry → Bool) × (Entry → Bool)) : Bool := xs.all p.1
abbrev wf (x0 : (List Entry)) (x1 : ((Entry → Bool) × (Entry → Bool))) : Prop := wfA [(.val (.sl 0 (.pair (.int .i64) (.pair (.pair (.int .i64) (.pair (.int .i64) (.pair (.int .i64) (.pair (.int .i64) (.pair (.int .i64) (.pair (.int .i64) (.pair .str (.pair .str .unit)))))))) .unit))) .f), (.fn (.pair (.int .i64) (.pair (.pair (.int .i64) (.pair (.int .i64) (.pair (.int .i64) (.pair (.int .i64) (.pair (.int .i64) (.pair (.int .i64) (.pair .str (.pair .str .unit)))))))) .unit)) .bool)] (x0, (x1, ()))
noncomputable def raw (x0 : (List Entry)) (x1 : ((Entry → Bool) × (Entry → Bool))) : Option (Unit × (Bool × Unit)) :=
 if (slices_IndexFunc_Entry.pre x0 x1) = true then
  some ((), ((decide ((0 : Int) ≤ (slices_IndexFunc_Entry x0 x1))), ()))
 else
  none
theorem eq (x0 : List Entry) (x1 : (Entry → Bool) × (Entry → Bool)) (_ : wf x0 x1) (hp : pre x0 x1 = true) : raw x0 x1 = some ((), (slices_ContainsFunc_Entry x0 x1, ())) := by
  unfold raw slices_ContainsFunc_Entry slices_IndexFunc_Entry
  rw [if_pos (show slices_IndexFunc_Entry.pre _ _ = true from hp)]
  have h := (idxF_lo x1.2 x0 0 (by omega)).2
  by_cases ha : x0.any x1.2 = true
  · rw [ha, decide_eq_true (h.2 ha)]
  · have h0 : ¬ 0 ≤ idxF x1.2 x0 0 := fun hh => ha (h.1 hh)
    rw [decide_eq_false h0]
    simp only [Bool.not_eq_true] at ha
    rw [ha]
end slices_ContainsFunc_Entry
def eOk (t : Int) (e : Entry) : Bool := impl_within e.1 0 t && CmdOk e.2.1
def impl_NoteOk_1 (e : Entry) : Bool := !eOk 300 e
namespace impl_NoteOk_1
abbrev wf (x0 : Entry) : Prop := wfA [(.val (.pair (.int .i64) (.pair (.pair (.int .i64) (.pair (.int .i64) (.pair (.int .i64) (.pair (.int .i64) (.pair (.int .i64) (.pair (.int .i64) (.pair .str (.pair .str .unit)))))))) .unit)) .f)] (x0, ())
noncomputable def raw (x0 : Entry) : Option (Unit × (Bool × Unit)) :=
 if (!(impl_within x0.1 (0 : Int) (300 : Int))) = true then
  some ((), (true, ()))
 else
  some ((), ((!(CmdOk x0.2.1)), ()))
theorem eq (x0 : Entry) (_ : wf x0) : raw x0 = some ((), (impl_NoteOk_1 x0, ())) := by
  unfold raw impl_NoteOk_1 eOk
  cases impl_within x0.1 0 300 <;> simp
end impl_NoteOk_1
def spec_l9List (xs : List Entry) (t : Int) : Bool := xs.all (eOk t) && decide (xs.length ≤ 40)
namespace spec_l9List
abbrev S := List Entry × (Int × (Int × Unit))
def pre2 : S → Bool := fun s => decide (s.1.length ≤ maxLen) && (decide (0 ≤ s.2.2.1) && decide (s.2.2.1.toNat ≤ s.1.length))
def fn2 : S → (Bool × Unit) ⊕ (List Entry × Unit) := fun s => if (s.1.drop s.2.2.1.toNat).all (eOk s.2.1) = true then .inr (s.1, ()) else .inl (false, ())
def mu2 : S → Nat := fun s => s.1.length - s.2.2.1.toNat
noncomputable def raw2 (x1 : (List Entry)) (x2 : Int) (x3 : Int) : Option (((List Entry) × Mark) ⊕ ((Bool × Unit) ⊕ ((List Entry) × Unit))) :=
 if (decide (x3 < ((List.length x1 : Nat) : Int))) = true then
  if (decide ((0 : Int) ≤ x3)) = true then
   if (decide (x3 < ((List.length x1 : Nat) : Int))) = true then
    if (!(impl_within (List.getD x1 (Int.toNat x3) ((0 : Int), (((0 : Int), ((0 : Int), ((0 : Int), ((0 : Int), ((0 : Int), ((0 : Int), (([] : List UInt8), (([] : List UInt8), ())))))))), ()))).1 (0 : Int) x2)) = true then
     some (.inr (.inl (false, ())))
    else
     if (decide ((0 : Int) ≤ x3)) = true then
      if (decide (x3 < ((List.length x1 : Nat) : Int))) = true then
       if (!(CmdOk (List.getD x1 (Int.toNat x3) ((0 : Int), (((0 : Int), ((0 : Int), ((0 : Int), ((0 : Int), ((0 : Int), ((0 : Int), (([] : List UInt8), (([] : List UInt8), ())))))))), ()))).2.1)) = true then
        some (.inr (.inl (false, ())))
       else
        some (.inl (x1, (x2, ((IntKind.wrap .i64 (x3 + (1 : Int))), ()))))
      else
       none
     else
      none
   else
    none
  else
   none
 else
  some (.inr (.inr (x1, ())))
abbrev wf (x0 : (List Entry)) (x1 : Int) : Prop := wfA [(.val (.sl 0 (.pair (.int .i64) (.pair (.pair (.int .i64) (.pair (.int .i64) (.pair (.int .i64) (.pair (.int .i64) (.pair (.int .i64) (.pair (.int .i64) (.pair .str (.pair .str .unit)))))))) .unit))) .f), (.val (.int .i64) .f)] (x0, (x1, ()))
noncomputable def raw (x0 : (List Entry)) (x1 : Int) : Option (Unit × (Bool × Unit)) :=
 if (spec_l9List.pre2 (x0, (x1, ((0 : Int), ())))) = true then
  match (spec_l9List.fn2 (x0, (x1, ((0 : Int), ())))) with
  | .inl y =>
   some ((), y)
  | .inr y =>
   some ((), ((decide (((List.length y.1 : Nat) : Int) ≤ (40 : Int))), ()))
 else
  none
theorem ok2 (x1 : List Entry) (x2 x3 : Int) (hp : pre2 (x1, (x2, (x3, ()))) = true) : Rounds pre2 mu2 fn2 (x1, (x2, (x3, ()))) (raw2 x1 x2 x3) := by
  simp only [pre2, Bool.and_eq_true, decide_eq_true_eq] at hp
  obtain ⟨h1, h2, h3⟩ := hp
  have hM := maxLen_eq
  unfold raw2
  by_cases hlt : x3 < (x1.length : Int)
  · have hn : x3.toNat < x1.length := by omega
    have e1 := List.drop_eq_getElem_cons hn
    simp only [hlt, h2, decide_true, if_true, getD_get hn]
    cases ha : impl_within (x1[x3.toNat]).1 0 x2 with
    | false => simp only [Rounds, fn2, e1, List.all_cons, eOk, ha, Bool.false_and, Bool.not_false, Bool.false_eq_true, if_true, if_false]
    | true =>
      cases hb : CmdOk (x1[x3.toNat]).2.1 with
      | false => simp only [Rounds, fn2, e1, List.all_cons, eOk, ha, hb, Bool.true_and, Bool.false_and, Bool.not_false, Bool.not_true, Bool.false_eq_true, if_true, if_false]
      | true =>
        simp only [Bool.not_true, Bool.false_eq_true, if_false, Rounds, w64 (n := x3 + 1) (by omega) (by omega)]
        refine ⟨?_, by simp only [mu2]; omega, ?_⟩
        · simp only [pre2, Bool.and_eq_true, decide_eq_true_eq]
          exact ⟨h1, by omega, by omega⟩
        · simp only [fn2, show (x3 + 1).toNat = x3.toNat + 1 by omega, e1, List.all_cons]
          rw [show eOk x2 x1[x3.toNat] = true by simp [eOk, ha, hb], Bool.true_and]
  · simp only [hlt, decide_false, Bool.false_eq_true, if_false, Rounds, fn2]
    rw [List.drop_eq_nil_of_le (by omega)]
    rfl
theorem eq (x0 : List Entry) (x1 : Int) (hw : wf x0 x1) : raw x0 x1 = some ((), (spec_l9List x0 x1, ())) := by
  have h1 : x0.length ≤ maxLen := hw.1.1
  unfold raw spec_l9List
  rw [if_pos (show pre2 _ = true by simp [pre2, h1])]
  by_cases ha : x0.all (eOk x1) = true
  · have hf : fn2 (x0, (x1, ((0 : Int), ()))) = .inr (x0, ()) := if_pos ha
    rw [hf, ha]
    by_cases hl : x0.length ≤ 40
    · simp [hl]; omega
    · simp [hl]; omega
  · have hf : fn2 (x0, (x1, ((0 : Int), ()))) = .inl (false, ()) := if_neg ha
    rw [hf]
    simp only [Bool.not_eq_true] at ha
    simp [ha]
end spec_l9List
def kindOk (r : Note) : Bool :=
  if r.1 = 1 then impl_within r.2.2.1 (-1) 4 && (decide (r.2.2.2.1 = 0) && (decide ((r.2.2.2.2.1.length : Int) = 0) && r.2.2.2.2.2.1 == []))
  else if r.1 = 2 then decide (r.2.2.1 = 0) && r.2.2.2.2.2.1 == []
  else if r.1 = 3 then decide (r.2.2.1 = 0) && decide ((r.2.2.2.2.1.length : Int) = 0)
  else false
def NoteOk (r : Note) : Bool := impl_within r.2.1 0 300 && (impl_within r.2.2.2.1 0 300 && (spec_l9List r.2.2.2.2.1 300 && (decide ((r.2.2.2.2.2.1.length : Int) ≤ 30000) && kindOk r)))
abbrev impl_NoteOk := NoteOk
abbrev spec_NoteOk := NoteOk
theorem any_not {α : Type} (f : α → Bool) (xs : List α) : xs.any (fun x => !f x) = !xs.all f := by
  induction xs with
  | nil => rfl
  | cons a r ih => simp [ih, Bool.not_and]
namespace spec_NoteOk
abbrev wf (x0 : Note) : Prop := wfA [(.val (.pair (.int .i64) (.pair (.int .i64) (.pair (.int .i64) (.pair (.int .i64) (.pair (.sl 0 (.pair (.int .i64) (.pair (.pair (.int .i64) (.pair (.int .i64) (.pair (.int .i64) (.pair (.int .i64) (.pair (.int .i64) (.pair (.int .i64) (.pair .str (.pair .str .unit)))))))) .unit))) (.pair .str .unit)))))) .f)] (x0, ())
noncomputable def raw (x0 : Note) : Option (Unit × (Bool × Unit)) :=
 if (!(impl_within x0.2.1 (0 : Int) (300 : Int))) = true then
  some ((), (false, ()))
 else
  if (!(impl_within x0.2.2.2.1 (0 : Int) (300 : Int))) = true then
   some ((), (false, ()))
  else
   if (!(spec_l9List x0.2.2.2.2.1 (300 : Int))) = true then
    some ((), (false, ()))
   else
    if (decide ((30000 : Int) < ((List.length x0.2.2.2.2.2.1 : Nat) : Int))) = true then
     some ((), (false, ()))
    else
     if (decide (x0.1 = (1 : Int))) = true then
      if (impl_within x0.2.2.1 (-1 : Int) (4 : Int)) = true then
       if (decide (x0.2.2.2.1 = (0 : Int))) = true then
        if (decide (((List.length x0.2.2.2.2.1 : Nat) : Int) = (0 : Int))) = true then
         some ((), ((x0.2.2.2.2.2.1 == ([] : List UInt8)), ()))
        else
         some ((), (false, ()))
       else
        some ((), (false, ()))
      else
       some ((), (false, ()))
     else
      if (decide (x0.1 = (2 : Int))) = true then
       if (decide (x0.2.2.1 = (0 : Int))) = true then
        some ((), ((x0.2.2.2.2.2.1 == ([] : List UInt8)), ()))
       else
        some ((), (false, ()))
      else
       if (decide (x0.1 = (3 : Int))) = true then
        if (decide (x0.2.2.1 = (0 : Int))) = true then
         some ((), ((decide (((List.length x0.2.2.2.2.1 : Nat) : Int) = (0 : Int))), ()))
        else
         some ((), (false, ()))
       else
        some ((), (false, ()))
theorem eq (x0 : Note) (_ : wf x0) : raw x0 = some ((), (spec_NoteOk x0, ())) := by
  unfold raw spec_NoteOk NoteOk kindOk
  cases impl_within x0.2.1 0 300
  · simp
  cases impl_within x0.2.2.2.1 0 300
  · simp
  cases spec_l9List x0.2.2.2.2.1 300
  · simp
  by_cases hs : (x0.2.2.2.2.2.1.length : Int) ≤ 30000
  case neg =>
    have hs' : (30000 : Int) < (x0.2.2.2.2.2.1.length : Int) := by omega
    simp [hs, hs']
  have hs' : ¬ (30000 : Int) < (x0.2.2.2.2.2.1.length : Int) := by omega
  simp only [hs, hs', decide_true, decide_false, Bool.not_true, Bool.false_eq_true, if_false, Bool.true_and, decide_eq_true_eq]
  split
  · cases impl_within x0.2.2.1 (-1) 4 <;> simp only [Bool.false_eq_true, if_false, if_true, Bool.false_and, Bool.true_and]
    split
    · rename_i h; simp only [h, decide_true, Bool.true_and]
      split
      · rename_i h; simp only [h, decide_true, Bool.true_and]
      · rename_i h; simp only [h, decide_false, Bool.false_and]
    · rename_i h; simp only [h, decide_false, Bool.false_and]
  split
  · split
    · rename_i h; simp only [h, decide_true, Bool.true_and]
    · rename_i h; simp only [h, decide_false, Bool.false_and]
  split
  · split
    · rename_i h; simp only [h, decide_true, Bool.true_and]
    · rename_i h; simp only [h, decide_false, Bool.false_and]
  · rfl
end spec_NoteOk
namespace impl_NoteOk
abbrev wf (x0 : Note) : Prop := wfA [(.val (.pair (.int .i64) (.pair (.int .i64) (.pair (.int .i64) (.pair (.int .i64) (.pair (.sl 0 (.pair (.int .i64) (.pair (.pair (.int .i64) (.pair (.int .i64) (.pair (.int .i64) (.pair (.int .i64) (.pair (.int .i64) (.pair (.int .i64) (.pair .str (.pair .str .unit)))))))) .unit))) (.pair .str .unit)))))) .f)] (x0, ())
noncomputable def raw (x0 : Note) : Option (Unit × (Bool × Unit)) :=
 if (!(impl_within x0.2.1 (0 : Int) (300 : Int))) = true then
  some ((), (false, ()))
 else
  if (!(impl_within x0.2.2.2.1 (0 : Int) (300 : Int))) = true then
   some ((), (false, ()))
  else
   if (decide ((40 : Int) < ((List.length x0.2.2.2.2.1 : Nat) : Int))) = true then
    some ((), (false, ()))
   else
    if (decide ((30000 : Int) < ((List.length x0.2.2.2.2.2.1 : Nat) : Int))) = true then
     some ((), (false, ()))
    else
     if (slices_ContainsFunc_Entry.pre x0.2.2.2.2.1 ((fun x => true), (fun x => (impl_NoteOk_1 x)))) = true then
      if (slices_ContainsFunc_Entry x0.2.2.2.2.1 ((fun x => true), (fun x => (impl_NoteOk_1 x)))) = true then
       some ((), (false, ()))
      else
       if (decide (x0.1 = (1 : Int))) = true then
        if (impl_within x0.2.2.1 (-1 : Int) (4 : Int)) = true then
         if (decide (x0.2.2.2.1 = (0 : Int))) = true then
          if (decide (((List.length x0.2.2.2.2.1 : Nat) : Int) = (0 : Int))) = true then
           some ((), ((x0.2.2.2.2.2.1 == ([] : List UInt8)), ()))
          else
           some ((), (false, ()))
         else
          some ((), (false, ()))
        else
         some ((), (false, ()))
       else
        if (decide (x0.1 = (2 : Int))) = true then
         if (decide (x0.2.2.1 = (0 : Int))) = true then
          some ((), ((x0.2.2.2.2.2.1 == ([] : List UInt8)), ()))
         else
          some ((), (false, ()))
        else
         if (decide (x0.1 = (3 : Int))) = true then
          if (decide (x0.2.2.1 = (0 : Int))) = true then
           some ((), ((decide (((List.length x0.2.2.2.2.1 : Nat) : Int) = (0 : Int))), ()))
          else
           some ((), (false, ()))
         else
          some ((), (false, ()))
     else
      none
theorem eq (x0 : Note) (_ : wf x0) : raw x0 = some ((), (impl_NoteOk x0, ())) := by
  unfold raw impl_NoteOk NoteOk kindOk spec_l9List
  cases impl_within x0.2.1 0 300
  · simp
  cases impl_within x0.2.2.2.1 0 300
  · simp
  by_cases hl : (x0.2.2.2.2.1.length : Int) ≤ 40
  case neg =>
    have hl' : (40 : Int) < (x0.2.2.2.2.1.length : Int) := by omega
    have hl2 : ¬ x0.2.2.2.2.1.length ≤ 40 := by omega
    simp [hl', hl2]
  have hl' : ¬ (40 : Int) < (x0.2.2.2.2.1.length : Int) := by omega
  have hl2 : x0.2.2.2.2.1.length ≤ 40 := by omega
  by_cases hs : (x0.2.2.2.2.2.1.length : Int) ≤ 30000
  case neg =>
    have hs' : (30000 : Int) < (x0.2.2.2.2.2.1.length : Int) := by omega
    simp [hs, hs', hl']
  have hs' : ¬ (30000 : Int) < (x0.2.2.2.2.2.1.length : Int) := by omega
  have hpre : slices_ContainsFunc_Entry.pre x0.2.2.2.2.1 ((fun _ => true), (fun x => impl_NoteOk_1 x)) = true := by simp [slices_ContainsFunc_Entry.pre]
  have hany : slices_ContainsFunc_Entry x0.2.2.2.2.1 ((fun _ => true), (fun x => impl_NoteOk_1 x)) = !x0.2.2.2.2.1.all (eOk 300) := any_not (eOk 300) _
  simp only [hl', hs', hs, hl2, hpre, hany, decide_true, decide_false, Bool.not_true, Bool.false_eq_true, if_false, if_true, Bool.true_and, Bool.and_true, decide_eq_true_eq]
  cases x0.2.2.2.2.1.all (eOk 300)
  · simp
  simp only [Bool.not_true, Bool.false_eq_true, if_false, Bool.true_and]
  split
  · cases impl_within x0.2.2.1 (-1) 4 <;> simp only [Bool.false_eq_true, if_false, if_true, Bool.false_and, Bool.true_and]
    split
    · rename_i h; simp only [h, decide_true, Bool.true_and]
      split
      · rename_i h; simp only [h, decide_true, Bool.true_and]
      · rename_i h; simp only [h, decide_false, Bool.false_and]
    · rename_i h; simp only [h, decide_false, Bool.false_and]
  split
  · split
    · rename_i h; simp only [h, decide_true, Bool.true_and]
    · rename_i h; simp only [h, decide_false, Bool.false_and]
  split
  · split
    · rename_i h; simp only [h, decide_true, Bool.true_and]
    · rename_i h; simp only [h, decide_false, Bool.false_and]
  · rfl
end impl_NoteOk
def laws_szNote (r : Note) (l : Int) : Int :=
  if laws_szEntryS r.2.2.2.2.1 l < 0 then -1 else if IntKind.wrap .i64 (laws_szEntryS r.2.2.2.2.1 l - (r.2.2.2.2.2.1.length : Int)) < 0 then -1 else IntKind.wrap .i64 (laws_szEntryS r.2.2.2.2.1 l - (r.2.2.2.2.2.1.length : Int))
namespace laws_szNote
abbrev wf (x0 : Note) (x1 : Int) : Prop := wfA [(.val (.pair (.int .i64) (.pair (.int .i64) (.pair (.int .i64) (.pair (.int .i64) (.pair (.sl 0 (.pair (.int .i64) (.pair (.pair (.int .i64) (.pair (.int .i64) (.pair (.int .i64) (.pair (.int .i64) (.pair (.int .i64) (.pair (.int .i64) (.pair .str (.pair .str .unit)))))))) .unit))) (.pair .str .unit)))))) .f), (.val (.int .i64) .f)] (x0, (x1, ()))
noncomputable def raw (x0 : Note) (x1 : Int) : Option (Unit × (Int × Unit)) :=
 if (decide ((laws_szEntryS x0.2.2.2.2.1 x1) < (0 : Int))) = true then
  some ((), ((-1 : Int), ()))
 else
  if (decide ((IntKind.wrap .i64 ((laws_szEntryS x0.2.2.2.2.1 x1) - ((List.length x0.2.2.2.2.2.1 : Nat) : Int))) < (0 : Int))) = true then
   some ((), ((-1 : Int), ()))
  else
   some ((), ((IntKind.wrap .i64 ((laws_szEntryS x0.2.2.2.2.1 x1) - ((List.length x0.2.2.2.2.2.1 : Nat) : Int))), ()))
theorem eq (x0 : Note) (x1 : Int) (_ : wf x0 x1) : raw x0 x1 = some ((), (laws_szNote x0 x1, ())) := by
  unfold raw laws_szNote
  simp only [decide_eq_true_eq]
  split
  · rfl
  · split <;> rfl
end laws_szNote
def laws_toNote (r : Note) : Note := r
namespace laws_toNote
def pre (x : Note) : Bool := small x.2.2.2.2.1
abbrev wf (x0 : Note) : Prop := wfA [(.val (.pair (.int .i64) (.pair (.int .i64) (.pair (.int .i64) (.pair (.int .i64) (.pair (.sl 0 (.pair (.int .i64) (.pair (.pair (.int .i64) (.pair (.int .i64) (.pair (.int .i64) (.pair (.int .i64) (.pair (.int .i64) (.pair (.int .i64) (.pair .str (.pair .str .unit)))))))) .unit))) (.pair .str .unit)))))) .f)] (x0, ())
noncomputable def raw (x0 : Note) : Option (Unit × (Note × Unit)) :=
 if (laws_toEntryS.pre x0.2.2.2.2.1) = true then
  some ((), ((x0.1, (x0.2.1, (x0.2.2.1, (x0.2.2.2.1, ((laws_toEntryS x0.2.2.2.2.1), x0.2.2.2.2.2))))), ()))
 else
  none
theorem eq (x0 : Note) (_ : wf x0) (hp : pre x0 = true) : raw x0 = some ((), (laws_toNote x0, ())) := by
  unfold raw
  rw [if_pos (show laws_toEntryS.pre _ = true from hp)]; rfl
end laws_toNote
noncomputable def laws_eqNote (a b : Note) : Bool := same a b
namespace laws_eqNote
abbrev wf (x0 : Note) (x1 : Note) : Prop := wfA [(.val (.pair (.int .i64) (.pair (.int .i64) (.pair (.int .i64) (.pair (.int .i64) (.pair (.sl 0 (.pair (.int .i64) (.pair (.pair (.int .i64) (.pair (.int .i64) (.pair (.int .i64) (.pair (.int .i64) (.pair (.int .i64) (.pair (.int .i64) (.pair .str (.pair .str .unit)))))))) .unit))) (.pair .str .unit)))))) .f), (.val (.pair (.int .i64) (.pair (.int .i64) (.pair (.int .i64) (.pair (.int .i64) (.pair (.sl 0 (.pair (.int .i64) (.pair (.pair (.int .i64) (.pair (.int .i64) (.pair (.int .i64) (.pair (.int .i64) (.pair (.int .i64) (.pair (.int .i64) (.pair .str (.pair .str .unit)))))))) .unit))) (.pair .str .unit)))))) .f)] (x0, (x1, ()))
noncomputable def raw (x0 : Note) (x1 : Note) : Option (Unit × (Bool × Unit)) :=
 if (!(decide (x0.1 = x1.1))) = true then
  some ((), (false, ()))
 else
  if (!(decide (x0.2.1 = x1.2.1))) = true then
   some ((), (false, ()))
  else
   if (!(decide (x0.2.2.1 = x1.2.2.1))) = true then
    some ((), (false, ()))
   else
    if (!(decide (x0.2.2.2.1 = x1.2.2.2.1))) = true then
     some ((), (false, ()))
    else
     if (!(laws_eqEntryS x0.2.2.2.2.1 x1.2.2.2.2.1)) = true then
      some ((), (false, ()))
     else
      if (!(x0.2.2.2.2.2.1 == x1.2.2.2.2.2.1)) = true then
       some ((), (false, ()))
      else
       some ((), (true, ()))
theorem eq (x0 x1 : Note) (_ : wf x0 x1) : raw x0 x1 = some ((), (laws_eqNote x0 x1, ())) := by
  obtain ⟨a1, a2, a3, a4, a5, a6, _⟩ := x0
  obtain ⟨b1, b2, b3, b4, b5, b6, _⟩ := x1
  unfold raw laws_eqNote laws_eqEntryS
  simp only [Bool.not_eq_true', decide_eq_false_iff_not, beq_eq_false_iff_ne, ne_eq]
  by_cases h1 : a1 = b1
  case neg => rw [if_pos h1, same_false.2 (by simp [h1])]
  rw [if_neg (by simp [h1])]
  by_cases h2 : a2 = b2
  case neg => rw [if_pos h2, same_false.2 (by simp [h2])]
  rw [if_neg (by simp [h2])]
  by_cases h3 : a3 = b3
  case neg => rw [if_pos h3, same_false.2 (by simp [h3])]
  rw [if_neg (by simp [h3])]
  by_cases h4 : a4 = b4
  case neg => rw [if_pos h4, same_false.2 (by simp [h4])]
  rw [if_neg (by simp [h4])]
  by_cases h5 : a5 = b5
  case neg => rw [if_pos (by simp [same_false.2 h5]), same_false.2 (by simp [h5])]
  rw [if_neg (by simp [same_true.2 h5])]
  by_cases h6 : a6 = b6
  case neg => rw [if_pos h6, same_false.2 (by simp [h6])]
  rw [if_neg (by simp [h6])]
  rw [same_true.2 (by simp [h1, h2, h3, h4, h5, h6])]
end laws_eqNote
theorem ofInt_nat {w : Nat} {x : Int} (h0 : 0 ≤ x) (h1 : x.toNat < 2 ^ w) : (BitVec.ofInt w x).toNat = x.toNat := by
  rw [BitVec.toNat_ofInt]
  have : x % ((2 ^ w : Nat) : Int) = x := Int.emod_eq_of_lt h0 (by omega)
  rw [this]
theorem and127 {x : Int} (h0 : 0 ≤ x) (h1 : x ≤ 9223372036854775807) : intBits .and .i64 x 127 = x % 128 := by
  show IntKind.wrap .i64 (((BitVec.ofInt 64 x) &&& (BitVec.ofInt 64 127)).toNat : Int) = _
  rw [BitVec.toNat_and, ofInt_nat h0 (by omega), ofInt_nat (by omega) (by decide)]
  have : x.toNat &&& Int.toNat 127 = x.toNat % 128 := Nat.and_two_pow_sub_one_eq_mod x.toNat 7
  rw [this]
  have e : ((x.toNat % 128 : Nat) : Int) = x % 128 := by omega
  rw [e, w64 (by omega) (by omega)]
theorem or128 {x : Int} (h0 : 0 ≤ x) (h1 : x < 128) : intBits .or .u8 x 128 = x + 128 := by
  show IntKind.wrap .u8 (((BitVec.ofInt 8 x) ||| (BitVec.ofInt 8 128)).toNat : Int) = _
  rw [BitVec.toNat_or, ofInt_nat h0 (by omega), ofInt_nat (by omega) (by decide)]
  have : x.toNat ||| Int.toNat 128 = 128 * 1 + x.toNat := by
    rw [Nat.or_comm]
    exact (Nat.two_pow_add_eq_or_of_lt (i := 7) (b := x.toNat) (by omega) 1).symm
  rw [this]
  have e : ((128 * 1 + x.toNat : Nat) : Int) = x + 128 := by omega
  rw [e, w8 (by omega) (by omega)]
theorem fdiv7 (x : Int) : Int.fdiv x (2 ^ min (Int.toNat (7 : Int)) (IntKind.bits .i64)) = x / 128 := by
  show Int.fdiv x 128 = _
  rw [Int.fdiv_eq_ediv_of_nonneg _ (by decide)]
def putI (n : Nat) : List Int := if n ≤ 127 then [] else ((n % 128 + 128 : Nat) : Int) :: putI (n / 128)
termination_by n
decreasing_by omega
def putZ (n : Nat) : Nat := if n ≤ 127 then n else putZ (n / 128)
termination_by n
decreasing_by omega
def putN (n : Nat) : List Int := putI n ++ [(putZ n : Int)]
def PutNum (n : Int) : List Int := if 0 ≤ n ∧ n ≤ 2147483647 then putN n.toNat else []
abbrev spec_PutNum := PutNum
abbrev impl_PutNum := PutNum
theorem putZ_le (n : Nat) : putZ n ≤ 127 := by
  induction n using Nat.strongRecOn with
  | ind n ih =>
    rw [putZ]
    split
    · assumption
    · exact ih _ (by omega)
theorem putI_len : (k : Nat) → {n : Nat} → n < 128 ^ (k + 1) → (putI n).length ≤ k
  | 0, n, h => by rw [putI, if_pos (by omega)]; simp
  | k + 1, n, h => by
    rw [putI]
    split
    · simp
    · rw [List.length_cons]
      have := putI_len k (n := n / 128) (by rw [Nat.pow_succ] at h; omega)
      omega
theorem PutNum_len (n : Int) : (PutNum n).length ≤ 5 := by
  unfold PutNum
  split
  · rw [putN, List.length_append]
    have := putI_len 4 (n := n.toNat) (by omega)
    simpa using this
  · simp
abbrev PnS := Int × (List Int × Unit)
def pnPre : PnS → Bool := fun s => decide (0 ≤ s.1) && (decide (s.1 ≤ 2147483647) && decide (s.2.1.length + s.1.toNat ≤ 2147483700))
def pnFn : PnS → PnS := fun s => ((putZ s.1.toNat : Int), (s.2.1 ++ putI s.1.toNat, ()))
def pnMu : PnS → Nat := fun s => s.1.toNat
theorem pn_next {n : Int} {out : List Int} (hp : pnPre (n, (out, ())) = true) (h : 127 < n) : Rounds pnPre pnMu pnFn (n, (out, ())) (some (.inl (n / 128, (out ++ [n % 128 + 128], ())))) := by
  simp only [pnPre, Bool.and_eq_true, decide_eq_true_eq] at hp
  obtain ⟨h0, h1, h2⟩ := hp
  simp only [Rounds]
  refine ⟨?_, by simp only [pnMu]; omega, ?_⟩
  · simp only [pnPre, Bool.and_eq_true, decide_eq_true_eq, List.length_append, List.length_cons, List.length_nil]
    omega
  · simp only [pnFn]
    have e : (n / 128).toNat = n.toNat / 128 := by omega
    have e2 : ((n.toNat % 128 + 128 : Nat) : Int) = n % 128 + 128 := by omega
    rw [e]
    conv => rhs; rw [putZ, if_neg (by omega), putI, if_neg (by omega), e2]
    simp
theorem pn_end {n : Int} {out : List Int} (hp : pnPre (n, (out, ())) = true) (h : ¬ 127 < n) : Rounds pnPre pnMu pnFn (n, (out, ())) (some (.inr (n, (out, ())))) := by
  simp only [pnPre, Bool.and_eq_true, decide_eq_true_eq] at hp
  obtain ⟨h0, h1, h2⟩ := hp
  simp only [Rounds, pnFn]
  rw [putZ, if_pos (by omega), putI, if_pos (by omega), Int.toNat_of_nonneg h0, List.append_nil]
namespace spec_PutNum
def pre4 := pnPre
def fn4 := pnFn
def mu4 := pnMu
noncomputable def raw4 (x1 : Int) (x2 : (List Int)) : Option ((Int × ((List Int) × Unit)) ⊕ (Int × ((List Int) × Unit))) :=
 if (decide ((127 : Int) < x1)) = true then
  if (!(decide ((128 : Int) = (0 : Int)))) = true then
   if (decide (List.length x2 + List.length ((IntKind.wrap .u8 (IntKind.wrap .i64 ((Int.tmod x1 (128 : Int)) + (128 : Int)))) :: ([] : List Int)) ≤ lim)) = true then
    if (!(decide ((128 : Int) = (0 : Int)))) = true then
     some (.inl ((IntKind.wrap .i64 (Int.tdiv x1 (128 : Int))), ((List.append x2 ((IntKind.wrap .u8 (IntKind.wrap .i64 ((Int.tmod x1 (128 : Int)) + (128 : Int)))) :: ([] : List Int))), ())))
    else
     none
   else
    none
  else
   none
 else
  some (.inr (x1, (x2, ())))
abbrev wf (x0 : Int) : Prop := wfA [(.val (.int .i64) .f)] (x0, ())
noncomputable def raw (x0 : Int) : Option (Unit × ((List Int) × Unit)) :=
 if (!(impl_within x0 (0 : Int) (2147483647 : Int))) = true then
  some ((), (([] : List Int), ()))
 else
  if (spec_PutNum.pre4 (x0, (([] : List Int), ()))) = true then
   if (decide (List.length (spec_PutNum.fn4 (x0, (([] : List Int), ()))).2.1 + List.length ((IntKind.wrap .u8 (spec_PutNum.fn4 (x0, (([] : List Int), ()))).1) :: ([] : List Int)) ≤ lim)) = true then
    some ((), ((List.append (spec_PutNum.fn4 (x0, (([] : List Int), ()))).2.1 ((IntKind.wrap .u8 (spec_PutNum.fn4 (x0, (([] : List Int), ()))).1) :: ([] : List Int))), ()))
   else
    none
  else
   none
theorem ok4 (x1 : Int) (x2 : List Int) (hp : pre4 (x1, (x2, ())) = true) : Rounds pre4 mu4 fn4 (x1, (x2, ())) (raw4 x1 x2) := by
  have hp' := hp
  simp only [pre4, pnPre, Bool.and_eq_true, decide_eq_true_eq] at hp'
  obtain ⟨h0, h1, h2⟩ := hp'
  unfold raw4
  by_cases h : 127 < x1
  · rw [Int.tmod_eq_emod_of_nonneg h0, Int.tdiv_eq_ediv_of_nonneg h0, w64 (n := x1 % 128 + 128) (by omega) (by omega), w8 (by omega) (by omega), w64 (n := x1 / 128) (by omega) (by omega)]
    rw [if_pos (by simp [h]), if_pos (by decide), if_pos (by simp only [List.length_cons, List.length_nil, decide_eq_true_eq, lim]; omega), if_pos (by decide)]
    exact pn_next hp h
  · rw [if_neg (by simp [h])]
    exact pn_end hp h
theorem eq (x0 : Int) (_ : wf x0) : raw x0 = some ((), (spec_PutNum x0, ())) := by
  unfold raw spec_PutNum PutNum impl_within
  by_cases h : 0 ≤ x0 ∧ x0 ≤ 2147483647
  · have hl := putI_len 4 (n := x0.toNat) (by omega)
    have hz := putZ_le x0.toNat
    rw [if_neg (by simp [h]), if_pos (show pre4 _ = true by simp [pre4, pnPre]; omega)]
    have hf : fn4 (x0, (([] : List Int), ())) = ((putZ x0.toNat : Int), ([] ++ putI x0.toNat, ())) := rfl
    rw [hf, if_pos (by simp only [List.nil_append, List.length_cons, List.length_nil, decide_eq_true_eq, lim]; omega), if_pos h]
    simp only [List.nil_append, List.append_eq, putN]
    rw [w8 (by omega) (by omega)]
  · rw [if_pos (by simp only [Bool.not_eq_true', Bool.and_eq_false_iff, decide_eq_false_iff_not]; omega), if_neg h]
end spec_PutNum
namespace impl_PutNum
def pre4 := pnPre
def fn4 := pnFn
def mu4 := pnMu
noncomputable def raw4 (x1 : Int) (x2 : (List Int)) : Option ((Int × ((List Int) × Unit)) ⊕ (Int × ((List Int) × Unit))) :=
 if (decide ((127 : Int) < x1)) = true then
  if (decide (List.length x2 + List.length ((intBits .or .u8 (IntKind.wrap .u8 (intBits .and .i64 x1 (127 : Int))) (128 : Int)) :: ([] : List Int)) ≤ lim)) = true then
   if (decide ((0 : Int) ≤ (7 : Int))) = true then
    some (.inl ((Int.fdiv x1 (2 ^ min (Int.toNat (7 : Int)) (IntKind.bits .i64))), ((List.append x2 ((intBits .or .u8 (IntKind.wrap .u8 (intBits .and .i64 x1 (127 : Int))) (128 : Int)) :: ([] : List Int))), ())))
   else
    none
  else
   none
 else
  some (.inr (x1, (x2, ())))
abbrev wf (x0 : Int) : Prop := wfA [(.val (.int .i64) .f)] (x0, ())
noncomputable def raw (x0 : Int) : Option (Unit × ((List Int) × Unit)) :=
 if (!(impl_within x0 (0 : Int) (2147483647 : Int))) = true then
  some ((), (([] : List Int), ()))
 else
  if (impl_PutNum.pre4 (x0, (([] : List Int), ()))) = true then
   if (decide (List.length (impl_PutNum.fn4 (x0, (([] : List Int), ()))).2.1 + List.length ((IntKind.wrap .u8 (impl_PutNum.fn4 (x0, (([] : List Int), ()))).1) :: ([] : List Int)) ≤ lim)) = true then
    some ((), ((List.append (impl_PutNum.fn4 (x0, (([] : List Int), ()))).2.1 ((IntKind.wrap .u8 (impl_PutNum.fn4 (x0, (([] : List Int), ()))).1) :: ([] : List Int))), ()))
   else
    none
  else
   none
theorem ok4 (x1 : Int) (x2 : List Int) (hp : pre4 (x1, (x2, ())) = true) : Rounds pre4 mu4 fn4 (x1, (x2, ())) (raw4 x1 x2) := by
  have hp' := hp
  simp only [pre4, pnPre, Bool.and_eq_true, decide_eq_true_eq] at hp'
  obtain ⟨h0, h1, h2⟩ := hp'
  unfold raw4
  by_cases h : 127 < x1
  · rw [and127 h0 (by omega), w8 (n := x1 % 128) (by omega) (by omega), or128 (by omega) (by omega), fdiv7]
    rw [if_pos (by simp [h]), if_pos (by simp only [List.length_cons, List.length_nil, decide_eq_true_eq, lim]; omega), if_pos (by decide)]
    exact pn_next hp h
  · rw [if_neg (by simp [h])]
    exact pn_end hp h
theorem eq (x0 : Int) (_ : wf x0) : raw x0 = some ((), (impl_PutNum x0, ())) := by
  unfold raw impl_PutNum PutNum impl_within
  by_cases h : 0 ≤ x0 ∧ x0 ≤ 2147483647
  · have hl := putI_len 4 (n := x0.toNat) (by omega)
    have hz := putZ_le x0.toNat
    rw [if_neg (by simp [h]), if_pos (show pre4 _ = true by simp [pre4, pnPre]; omega)]
    have hf : fn4 (x0, (([] : List Int), ())) = ((putZ x0.toNat : Int), ([] ++ putI x0.toNat, ())) := rfl
    rw [hf, if_pos (by simp only [List.nil_append, List.length_cons, List.length_nil, decide_eq_true_eq, lim]; omega), if_pos h]
    simp only [List.nil_append, List.append_eq, putN]
    rw [w8 (by omega) (by omega)]
  · rw [if_pos (by simp only [Bool.not_eq_true', Bool.and_eq_false_iff, decide_eq_false_iff_not]; omega), if_neg h]
end impl_PutNum
def PutText (s : List UInt8) : List Int := PutNum s.length ++ bytesOf s
abbrev spec_PutText := PutText
abbrev impl_PutText := PutText
def txtPre (s : List UInt8) : Bool := decide (s.length ≤ 1073741824)
theorem PutText_len (s : List UInt8) : (PutText s).length ≤ s.length + 5 := by
  have := PutNum_len s.length
  simp only [PutText, List.length_append, bytesOf, List.length_map]; omega
namespace spec_PutText
def pre := txtPre
abbrev wf (x0 : (List UInt8)) : Prop := wfA [(.val .str .f)] (x0, ())
noncomputable def raw (x0 : (List UInt8)) : Option (Unit × ((List Int) × Unit)) :=
 if (decide (List.length x0 ≤ lim)) = true then
  letB (PutNum ((List.length x0 : Nat) : Int)) fun v1 =>
  if (decide (List.length v1 + List.length (bytesOf x0) ≤ lim)) = true then
   some ((), ((List.append v1 (bytesOf x0)), ()))
  else
   none
 else
  none
theorem eq (x0 : List UInt8) (_ : wf x0) (hp : pre x0 = true) : raw x0 = some ((), (spec_PutText x0, ())) := by
  have hl := PutNum_len x0.length
  simp only [pre, txtPre, decide_eq_true_eq] at hp
  unfold raw
  simp only [letB]
  rw [if_pos (by simp only [decide_eq_true_eq, lim]; omega), if_pos (by simp only [bytesOf, List.length_map, decide_eq_true_eq, lim]; omega)]
  rfl
end spec_PutText
namespace impl_PutText
def pre := txtPre
abbrev wf (x0 : (List UInt8)) : Prop := wfA [(.val .str .f)] (x0, ())
noncomputable def raw (x0 : (List UInt8)) : Option (Unit × ((List Int) × Unit)) :=
 letB (PutNum ((List.length x0 : Nat) : Int)) fun v1 =>
 if (decide (List.length v1 + List.length (bytesOf x0) ≤ lim)) = true then
  some ((), ((List.append v1 (bytesOf x0)), ()))
 else
  none
theorem eq (x0 : List UInt8) (_ : wf x0) (hp : pre x0 = true) : raw x0 = some ((), (impl_PutText x0, ())) := by
  have hl := PutNum_len x0.length
  simp only [pre, txtPre, decide_eq_true_eq] at hp
  unfold raw
  simp only [letB]
  rw [if_pos (by simp only [bytesOf, List.length_map, decide_eq_true_eq, lim]; omega)]
  rfl
end impl_PutText
def nums (xs : List Int) : List Int := xs.flatMap PutNum
abbrev spec_l7Nums := nums
abbrev impl_nums := nums
theorem nums_len : (xs : List Int) → (nums xs).length ≤ 5 * xs.length
  | [] => by simp [nums]
  | a :: r => by
    have := PutNum_len a
    have := nums_len r
    simp only [nums, List.flatMap_cons, List.length_append, List.length_cons] at *
    omega
def numsPre (xs : List Int) : Bool := small xs
namespace spec_l7Nums
def pre := numsPre
abbrev S := List Int × (Int × (List Int × Unit))
def pre3 : S → Bool := fun s => small s.1 && (decide (0 ≤ s.2.1) && (decide (s.2.1.toNat ≤ s.1.length) && decide (s.2.2.1.length ≤ 5 * s.2.1.toNat)))
def fn3 : S → List Int × Unit := fun s => (s.2.2.1 ++ nums (s.1.drop s.2.1.toNat), ())
def mu3 : S → Nat := fun s => s.1.length - s.2.1.toNat
noncomputable def raw3 (x1 : (List Int)) (x2 : Int) (x3 : (List Int)) : Option (((List Int) × (Int × ((List Int) × Unit))) ⊕ ((List Int) × Unit)) :=
 if (decide (x2 < ((List.length x1 : Nat) : Int))) = true then
  if (decide ((0 : Int) ≤ x2)) = true then
   if (decide (x2 < ((List.length x1 : Nat) : Int))) = true then
    if (decide (List.length x3 + List.length (PutNum (List.getD x1 (Int.toNat x2) (0 : Int))) ≤ lim)) = true then
     some (.inl (x1, ((IntKind.wrap .i64 (x2 + (1 : Int))), ((List.append x3 (PutNum (List.getD x1 (Int.toNat x2) (0 : Int)))), ()))))
    else
     none
   else
    none
  else
   none
 else
  some (.inr (x3, ()))
abbrev wf (x0 : (List Int)) : Prop := wfA [(.val (.sl 0 (.int .i64)) .f)] (x0, ())
noncomputable def raw (x0 : (List Int)) : Option (Unit × ((List Int) × Unit)) :=
 if (spec_l7Nums.pre3 (x0, ((0 : Int), (([] : List Int), ())))) = true then
  some ((), (spec_l7Nums.fn3 (x0, ((0 : Int), (([] : List Int), ())))))
 else
  none
theorem ok3 (x1 : List Int) (x2 : Int) (x3 : List Int) (hp : pre3 (x1, (x2, (x3, ()))) = true) : Rounds pre3 mu3 fn3 (x1, (x2, (x3, ()))) (raw3 x1 x2 x3) := by
  simp only [pre3, Bool.and_eq_true, decide_eq_true_eq, small_iff] at hp
  obtain ⟨h1, h2, h3, h4⟩ := hp
  unfold raw3
  by_cases hlt : x2 < (x1.length : Int)
  · have hn : x2.toNat < x1.length := by omega
    have hl := PutNum_len (x1.getD x2.toNat 0)
    rw [if_pos (by simp [hlt]), if_pos (by simp [h2]), if_pos (by simp [hlt]), if_pos (by simp only [decide_eq_true_eq, lim]; omega), w64 (by omega) (by omega)]
    simp only [Rounds]
    refine ⟨?_, by simp only [mu3]; omega, ?_⟩
    · simp only [pre3, Bool.and_eq_true, decide_eq_true_eq, small_iff, List.append_eq, List.length_append]; omega
    · simp only [fn3, show (x2 + 1).toNat = x2.toNat + 1 by omega]
      rw [List.drop_eq_getElem_cons hn, getD_get hn]
      simp only [nums, List.flatMap_cons, List.append_eq, List.append_assoc]
  · rw [if_neg (by simp [hlt])]
    simp only [Rounds, fn3]
    rw [List.drop_eq_nil_of_le (by omega)]
    simp [nums]
theorem eq (x0 : List Int) (_ : wf x0) (hp : pre x0 = true) : raw x0 = some ((), (spec_l7Nums x0, ())) := by
  unfold raw
  rw [if_pos (show pre3 _ = true by simp [pre3, show small x0 = true from hp])]
  simp [fn3]
end spec_l7Nums
namespace impl_nums
def pre := numsPre
abbrev S := List Int × (Int × (Int × (List Int × Unit)))
def pre3 : S → Bool := fun s => small s.1 && (decide (s.2.1 = (s.1.length : Int)) && (decide (0 ≤ s.2.2.1) && (decide (s.2.2.1.toNat ≤ s.1.length) && decide (s.2.2.2.1.length ≤ 5 * s.2.2.1.toNat))))
def fn3 : S → List Int × Unit := fun s => (s.2.2.2.1 ++ nums (s.1.drop s.2.2.1.toNat), ())
def mu3 : S → Nat := fun s => s.1.length - s.2.2.1.toNat
noncomputable def raw3 (x1 : (List Int)) (x2 : Int) (x3 : Int) (x4 : (List Int)) : Option (((List Int) × (Int × (Int × ((List Int) × Unit)))) ⊕ ((List Int) × Unit)) :=
 if (decide (x3 < x2)) = true then
  if (decide ((0 : Int) ≤ x3)) = true then
   if (decide (x3 < ((List.length x1 : Nat) : Int))) = true then
    if (decide (List.length x4 + List.length (PutNum (List.getD x1 (Int.toNat x3) (0 : Int))) ≤ lim)) = true then
     some (.inl (x1, (x2, ((IntKind.wrap .i64 (x3 + (1 : Int))), ((List.append x4 (PutNum (List.getD x1 (Int.toNat x3) (0 : Int)))), ())))))
    else
     none
   else
    none
  else
   none
 else
  some (.inr (x4, ()))
abbrev wf (x0 : (List Int)) : Prop := wfA [(.val (.sl 0 (.int .i64)) .f)] (x0, ())
noncomputable def raw (x0 : (List Int)) : Option (Unit × ((List Int) × Unit)) :=
 if (impl_nums.pre3 (x0, (((List.length x0 : Nat) : Int), ((0 : Int), (([] : List Int), ()))))) = true then
  some ((), (impl_nums.fn3 (x0, (((List.length x0 : Nat) : Int), ((0 : Int), (([] : List Int), ()))))))
 else
  none
theorem ok3 (x1 : List Int) (x2 x3 : Int) (x4 : List Int) (hp : pre3 (x1, (x2, (x3, (x4, ())))) = true) : Rounds pre3 mu3 fn3 (x1, (x2, (x3, (x4, ())))) (raw3 x1 x2 x3 x4) := by
  simp only [pre3, Bool.and_eq_true, decide_eq_true_eq, small_iff] at hp
  obtain ⟨h1, rfl, h2, h3, h4⟩ := hp
  unfold raw3
  by_cases hlt : x3 < (x1.length : Int)
  · have hn : x3.toNat < x1.length := by omega
    have hl := PutNum_len (x1.getD x3.toNat 0)
    rw [if_pos (by simp [hlt]), if_pos (by simp [h2]), if_pos (by simp [hlt]), if_pos (by simp only [decide_eq_true_eq, lim]; omega), w64 (n := x3 + 1) (by omega) (by omega)]
    simp only [Rounds]
    refine ⟨?_, by simp only [mu3]; omega, ?_⟩
    · simp only [pre3, Bool.and_eq_true, decide_eq_true_eq, small_iff, List.append_eq, List.length_append, true_and]
      refine ⟨h1, by omega, by omega, by omega⟩
    · simp only [fn3, show (x3 + 1).toNat = x3.toNat + 1 by omega]
      rw [List.drop_eq_getElem_cons hn, getD_get hn]
      simp only [nums, List.flatMap_cons, List.append_eq, List.append_assoc]
  · rw [if_neg (by simp [hlt])]
    simp only [Rounds, fn3]
    rw [List.drop_eq_nil_of_le (by omega)]
    simp [nums]
theorem eq (x0 : List Int) (_ : wf x0) (hp : pre x0 = true) : raw x0 = some ((), (impl_nums x0, ())) := by
  unfold raw
  rw [if_pos (show pre3 _ = true by simp [pre3, show small x0 = true from hp])]
  simp [fn3]
end impl_nums
def slices_Grow_byte (_ : Int) : List Int := []
namespace slices_Grow_byte
def pre (n : Int) : Bool := decide (0 ≤ n) && decide (n ≤ 4294967296)
abbrev wf (x0 : Int) : Prop := wfA [(.nil 5 (.int .u8)), (.val (.int .i64) .f)] (x0, ())
noncomputable def raw (x0 : Int) : Option (Unit × ((List Int) × Unit)) :=
 if (decide (x0 < (0 : Int))) = true then
  none
 else
  if (decide ((0 : Int) < (IntKind.wrap .i64 (x0 - (IntKind.wrap .i64 ((0 : Int) - (0 : Int))))))) = true then
   if (decide ((0 : Int) = (0 : Int))) = true then
    if (decide ((0 : Int) = (0 : Int))) = true then
     if (decide ((0 : Int) ≤ (IntKind.wrap .i64 (x0 - (IntKind.wrap .i64 ((0 : Int) - (0 : Int))))))) = true then
      if (decide ((IntKind.wrap .i64 (x0 - (IntKind.wrap .i64 ((0 : Int) - (0 : Int))))) ≤ (4294967296 : Int))) = true then
       if (decide ((0 : Int) ≤ (0 : Int))) = true then
        if (decide ((0 : Int) ≤ (0 : Int))) = true then
         if (decide ((0 : Int) ≤ ((List.length (List.replicate (Int.toNat (IntKind.wrap .i64 (x0 - (IntKind.wrap .i64 ((0 : Int) - (0 : Int)))))) (0 : Int)) : Nat) : Int))) = true then
          some ((), ((dropTake (Int.toNat (0 : Int)) (Int.toNat (0 : Int)) (List.replicate (Int.toNat (IntKind.wrap .i64 (x0 - (IntKind.wrap .i64 ((0 : Int) - (0 : Int)))))) (0 : Int))), ()))
         else
          none
        else
         none
       else
        none
      else
       none
     else
      none
    else
     none
   else
    none
  else
   some ((), (([] : List Int), ()))
theorem eq (x0 : Int) (_ : wf x0) (hp : pre x0 = true) : raw x0 = some ((), (slices_Grow_byte x0, ())) := by
  simp only [pre, Bool.and_eq_true, decide_eq_true_eq] at hp
  have h0 : IntKind.wrap .i64 ((0 : Int) - 0) = 0 := by decide
  unfold raw
  rw [h0, w64 (n := x0 - 0) (by omega) (by omega)]
  have hn : ¬ x0 < 0 := by omega
  by_cases h : 0 < x0
  · have h1 : 0 ≤ x0 := by omega
    simp [hn, h, h1, hp.2, dropTake, slices_Grow_byte]
    omega
  · simp [hn, h, slices_Grow_byte]
end slices_Grow_byte
def slices_Concat_byte (xs : List (List Int)) : List Int := xs.flatten
theorem flatten_cons_len (xs : List (List Int)) (i : Nat) (h : i < xs.length) : (xs.drop i).flatten.length = xs[i].length + (xs.drop (i + 1)).flatten.length := by
  rw [List.drop_eq_getElem_cons h, List.flatten_cons, List.length_append]
namespace slices_Concat_byte
def pre (xs : List (List Int)) : Bool := decide (xs.flatten.length ≤ 4294967296) && small xs
abbrev S3 := List (List Int) × (Int × (List (List Int) × (Int × (Int × Unit))))
def pre3 : S3 → Bool := fun s => small s.2.2.1 && (decide (s.1 = s.2.2.1) && (decide (s.2.2.2.1 = (s.2.2.1.length : Int)) && (decide (0 ≤ s.2.2.2.2.1) && (decide (s.2.2.2.2.1.toNat ≤ s.2.2.1.length) && (decide (0 ≤ s.2.1) && decide (s.2.1 + ((s.2.2.1.drop s.2.2.2.2.1.toNat).flatten.length : Int) ≤ 4294967296))))))
def fn3 : S3 → List (List Int) × (Int × Unit) := fun s => (s.1, (s.2.1 + ((s.2.2.1.drop s.2.2.2.2.1.toNat).flatten.length : Int), ()))
def mu3 : S3 → Nat := fun s => s.2.2.1.length - s.2.2.2.2.1.toNat
abbrev S11 := List (List Int) × (Int × (Int × (List Int × Unit)))
def pre11 : S11 → Bool := fun s => small s.1 && (decide (s.2.1 = (s.1.length : Int)) && (decide (0 ≤ s.2.2.1) && (decide (s.2.2.1.toNat ≤ s.1.length) && decide (s.2.2.2.1.length + (s.1.drop s.2.2.1.toNat).flatten.length ≤ 4294967296))))
def fn11 : S11 → List Int × Unit := fun s => (s.2.2.2.1 ++ (s.1.drop s.2.2.1.toNat).flatten, ())
def mu11 : S11 → Nat := fun s => s.1.length - s.2.2.1.toNat
noncomputable def raw3 (x1 : (List (List Int))) (x2 : Int) (x3 : (List (List Int))) (x4 : Int) (x5 : Int) : Option (((List (List Int)) × (Int × ((List (List Int)) × Mark))) ⊕ ((List (List Int)) × (Int × Unit))) :=
 if (decide (x5 < x4)) = true then
  if (decide ((0 : Int) ≤ x5)) = true then
   if (decide (x5 < ((List.length x3 : Nat) : Int))) = true then
    if (decide ((IntKind.wrap .i64 (x2 + ((List.length (List.getD x3 (Int.toNat x5) ([] : List Int)) : Nat) : Int))) < (0 : Int))) = true then
     none
    else
     some (.inl (x1, ((IntKind.wrap .i64 (x2 + ((List.length (List.getD x3 (Int.toNat x5) ([] : List Int)) : Nat) : Int))), (x3, (x4, ((IntKind.wrap .i64 (x5 + (1 : Int))), ()))))))
   else
    none
  else
   none
 else
  some (.inr (x1, (x2, ())))
noncomputable def raw11 (x1 : (List (List Int))) (x2 : Int) (x3 : Int) (x4 : (List Int)) : Option (((List (List Int)) × (Int × (Int × ((List Int) × Unit)))) ⊕ ((List Int) × Unit)) :=
 if (decide (x3 < x2)) = true then
  if (decide ((0 : Int) ≤ x3)) = true then
   if (decide (x3 < ((List.length x1 : Nat) : Int))) = true then
    if (decide (List.length x4 + List.length (List.getD x1 (Int.toNat x3) ([] : List Int)) ≤ lim)) = true then
     some (.inl (x1, (x2, ((IntKind.wrap .i64 (x3 + (1 : Int))), ((List.append x4 (List.getD x1 (Int.toNat x3) ([] : List Int))), ())))))
    else
     none
   else
    none
  else
   none
 else
  some (.inr (x4, ()))
abbrev wf (x0 : (List (List Int))) : Prop := wfA [(.val (.sl 0 (.sl 0 (.int .u8))) .f)] (x0, ())
noncomputable def raw (x0 : (List (List Int))) : Option (Unit × ((List Int) × Unit)) :=
 if (slices_Concat_byte.pre3 (x0, ((0 : Int), (x0, (((List.length x0 : Nat) : Int), ((0 : Int), ())))))) = true then
  letB (slices_Concat_byte.fn3 (x0, ((0 : Int), (x0, (((List.length x0 : Nat) : Int), ((0 : Int), ())))))) fun v1 =>
  if (slices_Grow_byte.pre v1.2.1) = true then
   letB (slices_Grow_byte v1.2.1) fun v2 =>
   if (slices_Concat_byte.pre11 (v1.1, (((List.length v1.1 : Nat) : Int), ((0 : Int), (v2, ()))))) = true then
    letB (slices_Concat_byte.fn11 (v1.1, (((List.length v1.1 : Nat) : Int), ((0 : Int), (v2, ()))))) fun v3 =>
    some ((), v3)
   else
    none
  else
   none
 else
  none
theorem ok3 (x1 : List (List Int)) (x2 : Int) (x3 : List (List Int)) (x4 x5 : Int) (hp : pre3 (x1, (x2, (x3, (x4, (x5, ()))))) = true) : Rounds pre3 mu3 fn3 (x1, (x2, (x3, (x4, (x5, ()))))) (raw3 x1 x2 x3 x4 x5) := by
  simp only [pre3, Bool.and_eq_true, decide_eq_true_eq, small_iff] at hp
  obtain ⟨h1, rfl, rfl, h2, h3, h4, h5⟩ := hp
  unfold raw3
  by_cases hlt : x5 < (x1.length : Int)
  · have hn : x5.toNat < x1.length := by omega
    have hc := flatten_cons_len x1 x5.toNat hn
    rw [getD_get hn, if_pos (by simp [hlt]), if_pos (by simp [h2]), if_pos (by simp [hlt]), w64 (n := x2 + _) (by omega) (by omega), if_neg (by simp only [decide_eq_true_eq]; omega), w64 (by omega) (by omega)]
    simp only [Rounds]
    refine ⟨?_, by simp only [mu3]; omega, ?_⟩
    · simp only [pre3, Bool.and_eq_true, decide_eq_true_eq, small_iff, show (x5 + 1).toNat = x5.toNat + 1 by omega]
      refine ⟨h1, trivial, trivial, by omega, by omega, by omega, by omega⟩
    · simp only [fn3, show (x5 + 1).toNat = x5.toNat + 1 by omega, hc]
      refine Prod.ext rfl (Prod.ext ?_ rfl)
      show _ = _
      push_cast; omega
  · rw [if_neg (by simp [hlt])]
    simp only [Rounds, fn3]
    rw [List.drop_eq_nil_of_le (by omega)]
    simp
theorem ok11 (x1 : List (List Int)) (x2 x3 : Int) (x4 : List Int) (hp : pre11 (x1, (x2, (x3, (x4, ())))) = true) : Rounds pre11 mu11 fn11 (x1, (x2, (x3, (x4, ())))) (raw11 x1 x2 x3 x4) := by
  simp only [pre11, Bool.and_eq_true, decide_eq_true_eq, small_iff] at hp
  obtain ⟨h1, rfl, h2, h3, h4⟩ := hp
  unfold raw11
  by_cases hlt : x3 < (x1.length : Int)
  · have hn : x3.toNat < x1.length := by omega
    have hc := flatten_cons_len x1 x3.toNat hn
    rw [getD_get hn, if_pos (by simp [hlt]), if_pos (by simp [h2]), if_pos (by simp [hlt]), if_pos (by simp only [decide_eq_true_eq, lim]; omega), w64 (by omega) (by omega)]
    simp only [Rounds]
    refine ⟨?_, by simp only [mu11]; omega, ?_⟩
    · simp only [pre11, Bool.and_eq_true, decide_eq_true_eq, small_iff, List.append_eq, List.length_append, show (x3 + 1).toNat = x3.toNat + 1 by omega]
      refine ⟨h1, trivial, by omega, by omega, by omega⟩
    · simp only [fn11, show (x3 + 1).toNat = x3.toNat + 1 by omega]
      rw [List.drop_eq_getElem_cons hn]
      simp only [List.flatten_cons, List.append_eq, List.append_assoc]
  · rw [if_neg (by simp [hlt])]
    simp only [Rounds, fn11]
    rw [List.drop_eq_nil_of_le (by omega)]
    simp
theorem eq (x0 : List (List Int)) (_ : wf x0) (hp : pre x0 = true) : raw x0 = some ((), (slices_Concat_byte x0, ())) := by
  simp only [pre, Bool.and_eq_true, decide_eq_true_eq] at hp
  obtain ⟨h1, h2⟩ := hp
  unfold raw
  have hf : fn3 (x0, ((0 : Int), (x0, (((x0.length : Nat) : Int), ((0 : Int), ()))))) = (x0, ((x0.flatten.length : Int), ())) := by simp [fn3]
  rw [if_pos (show pre3 _ = true by
    simp only [pre3, Bool.and_eq_true, decide_eq_true_eq, Int.toNat_zero, List.drop_zero]
    exact ⟨h2, trivial, trivial, by omega, by omega, by omega, by omega⟩), hf]
  simp only [letB]
  rw [if_pos (show slices_Grow_byte.pre _ = true by simp only [slices_Grow_byte.pre, Bool.and_eq_true, decide_eq_true_eq]; omega), if_pos (show pre11 _ = true by
    simp only [pre11, Bool.and_eq_true, decide_eq_true_eq, Int.toNat_zero, List.drop_zero, slices_Grow_byte, List.length_nil]
    exact ⟨h2, trivial, by omega, by omega, by omega⟩)]
  simp [fn11, slices_Grow_byte, slices_Concat_byte]
end slices_Concat_byte
def sumF (s : Int × Int) (a : Int) : Int × Int :=
  (Int.tmod (IntKind.wrap .i64 (s.1 + IntKind.wrap .i64 a)) 65521, Int.tmod (IntKind.wrap .i64 (s.2 + Int.tmod (IntKind.wrap .i64 (s.1 + IntKind.wrap .i64 a)) 65521)) 65521)
def SumOf (b : List Int) : Int := IntKind.wrap .i64 (IntKind.wrap .i64 ((b.foldl sumF (1, 0)).2 * 65536) + (b.foldl sumF (1, 0)).1)
abbrev spec_SumOf := SumOf
abbrev impl_SumOf := SumOf
namespace spec_SumOf
abbrev S := List Int × (Int × (Int × (Int × Unit)))
def pre3 : S → Bool := fun s => decide (s.1.length ≤ maxLen) && (decide (0 ≤ s.2.2.2.1) && decide (s.2.2.2.1.toNat ≤ s.1.length))
def fn3 : S → Int × (Int × Unit) := fun s => (((s.1.drop s.2.2.2.1.toNat).foldl sumF (s.2.1, s.2.2.1)).1, (((s.1.drop s.2.2.2.1.toNat).foldl sumF (s.2.1, s.2.2.1)).2, ()))
def mu3 : S → Nat := fun s => s.1.length - s.2.2.2.1.toNat
noncomputable def raw3 (x1 : (List Int)) (x2 : Int) (x3 : Int) (x4 : Int) : Option (((List Int) × (Int × Mark)) ⊕ Mark) :=
 if (decide (x4 < ((List.length x1 : Nat) : Int))) = true then
  if (decide ((0 : Int) ≤ x4)) = true then
   if (decide (x4 < ((List.length x1 : Nat) : Int))) = true then
    if (!(decide ((65521 : Int) = (0 : Int)))) = true then
     if (!(decide ((65521 : Int) = (0 : Int)))) = true then
      some (.inl (x1, ((Int.tmod (IntKind.wrap .i64 (x2 + (IntKind.wrap .i64 (List.getD x1 (Int.toNat x4) (0 : Int))))) (65521 : Int)), ((Int.tmod (IntKind.wrap .i64 (x3 + (Int.tmod (IntKind.wrap .i64 (x2 + (IntKind.wrap .i64 (List.getD x1 (Int.toNat x4) (0 : Int))))) (65521 : Int)))) (65521 : Int)), ((IntKind.wrap .i64 (x4 + (1 : Int))), ())))))
     else
      none
    else
     none
   else
    none
  else
   none
 else
  some (.inr (x2, (x3, ())))
abbrev wf (x0 : (List Int)) : Prop := wfA [(.val (.sl 0 (.int .u8)) .f)] (x0, ())
noncomputable def raw (x0 : (List Int)) : Option (Unit × (Int × Unit)) :=
 if (spec_SumOf.pre3 (x0, ((1 : Int), ((0 : Int), ((0 : Int), ()))))) = true then
  some ((), ((IntKind.wrap .i64 ((IntKind.wrap .i64 ((spec_SumOf.fn3 (x0, ((1 : Int), ((0 : Int), ((0 : Int), ()))))).2.1 * (65536 : Int))) + (spec_SumOf.fn3 (x0, ((1 : Int), ((0 : Int), ((0 : Int), ()))))).1)), ()))
 else
  none
theorem ok3 (x1 : List Int) (x2 x3 x4 : Int) (hp : pre3 (x1, (x2, (x3, (x4, ())))) = true) : Rounds pre3 mu3 fn3 (x1, (x2, (x3, (x4, ())))) (raw3 x1 x2 x3 x4) := by
  simp only [pre3, Bool.and_eq_true, decide_eq_true_eq] at hp
  obtain ⟨h1, h2, h3⟩ := hp
  have hM := maxLen_eq
  unfold raw3
  by_cases hlt : x4 < (x1.length : Int)
  · have hn : x4.toNat < x1.length := by omega
    have e1 := List.drop_eq_getElem_cons hn
    rw [if_pos (by simp [hlt]), if_pos (by simp [h2]), if_pos (by simp [hlt]), if_pos (by decide), if_pos (by decide), getD_get hn, w64 (n := x4 + 1) (by omega) (by omega)]
    simp only [Rounds]
    refine ⟨?_, by simp only [mu3]; omega, ?_⟩
    · simp only [pre3, Bool.and_eq_true, decide_eq_true_eq]; omega
    · simp only [fn3, show (x4 + 1).toNat = x4.toNat + 1 by omega, e1, List.foldl_cons, sumF]
  · rw [if_neg (by simp [hlt])]
    simp only [Rounds, fn3]
    rw [List.drop_eq_nil_of_le (by omega)]
    rfl
theorem eq (x0 : List Int) (hw : wf x0) : raw x0 = some ((), (spec_SumOf x0, ())) := by
  have h1 : x0.length ≤ maxLen := hw.1.1
  unfold raw
  rw [if_pos (show pre3 _ = true by simp [pre3, h1])]
  rfl
end spec_SumOf
namespace impl_SumOf
abbrev S := Int × (Int × (List Int × (Int × (Int × Unit))))
def pre3 : S → Bool := fun s => decide (s.2.2.1.length ≤ maxLen) && (decide (s.2.2.2.1 = (s.2.2.1.length : Int)) && (decide (0 ≤ s.2.2.2.2.1) && decide (s.2.2.2.2.1.toNat ≤ s.2.2.1.length)))
def fn3 : S → Int × (Int × Unit) := fun s => (((s.2.2.1.drop s.2.2.2.2.1.toNat).foldl sumF (s.1, s.2.1)).1, (((s.2.2.1.drop s.2.2.2.2.1.toNat).foldl sumF (s.1, s.2.1)).2, ()))
def mu3 : S → Nat := fun s => s.2.2.1.length - s.2.2.2.2.1.toNat
noncomputable def raw3 (x1 : Int) (x2 : Int) (x3 : (List Int)) (x4 : Int) (x5 : Int) : Option ((Int × (Int × ((List Int) × Mark))) ⊕ Mark) :=
 if (decide (x5 < x4)) = true then
  if (decide ((0 : Int) ≤ x5)) = true then
   if (decide (x5 < ((List.length x3 : Nat) : Int))) = true then
    if (!(decide ((65521 : Int) = (0 : Int)))) = true then
     if (!(decide ((65521 : Int) = (0 : Int)))) = true then
      some (.inl ((Int.tmod (IntKind.wrap .i64 (x1 + (IntKind.wrap .i64 (List.getD x3 (Int.toNat x5) (0 : Int))))) (65521 : Int)), ((Int.tmod (IntKind.wrap .i64 (x2 + (Int.tmod (IntKind.wrap .i64 (x1 + (IntKind.wrap .i64 (List.getD x3 (Int.toNat x5) (0 : Int))))) (65521 : Int)))) (65521 : Int)), (x3, (x4, ((IntKind.wrap .i64 (x5 + (1 : Int))), ()))))))
     else
      none
    else
     none
   else
    none
  else
   none
 else
  some (.inr (x1, (x2, ())))
abbrev wf (x0 : (List Int)) : Prop := wfA [(.val (.sl 0 (.int .u8)) .f)] (x0, ())
noncomputable def raw (x0 : (List Int)) : Option (Unit × (Int × Unit)) :=
 if (impl_SumOf.pre3 ((1 : Int), ((0 : Int), (x0, (((List.length x0 : Nat) : Int), ((0 : Int), ())))))) = true then
  some ((), ((IntKind.wrap .i64 ((IntKind.wrap .i64 ((impl_SumOf.fn3 ((1 : Int), ((0 : Int), (x0, (((List.length x0 : Nat) : Int), ((0 : Int), ())))))).2.1 * (65536 : Int))) + (impl_SumOf.fn3 ((1 : Int), ((0 : Int), (x0, (((List.length x0 : Nat) : Int), ((0 : Int), ())))))).1)), ()))
 else
  none
theorem ok3 (x1 x2 : Int) (x3 : List Int) (x4 x5 : Int) (hp : pre3 (x1, (x2, (x3, (x4, (x5, ()))))) = true) : Rounds pre3 mu3 fn3 (x1, (x2, (x3, (x4, (x5, ()))))) (raw3 x1 x2 x3 x4 x5) := by
  simp only [pre3, Bool.and_eq_true, decide_eq_true_eq] at hp
  obtain ⟨h1, rfl, h2, h3⟩ := hp
  have hM := maxLen_eq
  unfold raw3
  by_cases hlt : x5 < (x3.length : Int)
  · have hn : x5.toNat < x3.length := by omega
    have e1 := List.drop_eq_getElem_cons hn
    rw [if_pos (by simp [hlt]), if_pos (by simp [h2]), if_pos (by simp [hlt]), if_pos (by decide), if_pos (by decide), getD_get hn, w64 (n := x5 + 1) (by omega) (by omega)]
    simp only [Rounds]
    refine ⟨?_, by simp only [mu3]; omega, ?_⟩
    · simp only [pre3, Bool.and_eq_true, decide_eq_true_eq]; exact ⟨h1, trivial, by omega, by omega⟩
    · simp only [fn3, show (x5 + 1).toNat = x5.toNat + 1 by omega, e1, List.foldl_cons, sumF]
  · rw [if_neg (by simp [hlt])]
    simp only [Rounds, fn3]
    rw [List.drop_eq_nil_of_le (by omega)]
    rfl
theorem eq (x0 : List Int) (hw : wf x0) : raw x0 = some ((), (impl_SumOf x0, ())) := by
  have h1 : x0.length ≤ maxLen := hw.1.1
  unfold raw
  rw [if_pos (show pre3 _ = true by simp [pre3, h1])]
  rfl
end impl_SumOf
def sum4 (s : Int) : List Int :=
  [IntKind.wrap .u8 s, IntKind.wrap .u8 (Int.fdiv s (2 ^ min (Int.toNat (8 : Int)) (IntKind.bits .i64))), IntKind.wrap .u8 (Int.fdiv s (2 ^ min (Int.toNat (16 : Int)) (IntKind.bits .i64))), IntKind.wrap .u8 (Int.fdiv s (2 ^ min (Int.toNat (24 : Int)) (IntKind.bits .i64)))]
def spec_l9Sum (b : List Int) : List Int := sum4 (SumOf b)
namespace spec_l9Sum
abbrev wf (x0 : (List Int)) : Prop := wfA [(.val (.sl 0 (.int .u8)) .f)] (x0, ())
noncomputable def raw (x0 : (List Int)) : Option (Unit × ((List Int) × Unit)) :=
 if (decide ((0 : Int) ≤ (8 : Int))) = true then
  if (decide ((0 : Int) ≤ (16 : Int))) = true then
   if (decide ((0 : Int) ≤ (24 : Int))) = true then
    some ((), (((IntKind.wrap .u8 (SumOf x0)) :: ((IntKind.wrap .u8 (Int.fdiv (SumOf x0) (2 ^ min (Int.toNat (8 : Int)) (IntKind.bits .i64)))) :: ((IntKind.wrap .u8 (Int.fdiv (SumOf x0) (2 ^ min (Int.toNat (16 : Int)) (IntKind.bits .i64)))) :: ((IntKind.wrap .u8 (Int.fdiv (SumOf x0) (2 ^ min (Int.toNat (24 : Int)) (IntKind.bits .i64)))) :: ([] : List Int))))), ()))
   else
    none
  else
   none
 else
  none
theorem eq (x0 : List Int) (_ : wf x0) : raw x0 = some ((), (spec_l9Sum x0, ())) := by
  unfold raw
  rw [if_pos (by decide), if_pos (by decide), if_pos (by decide)]
  rfl
end spec_l9Sum
def CmdBytes (c : Cmd) : List Int :=
  if CmdOk c = true then List.append (List.append (nums [IntKind.wrap .i64 (c.1 + 1), c.2.1, c.2.2.1, c.2.2.2.1, c.2.2.2.2.1, c.2.2.2.2.2.1]) (PutText c.2.2.2.2.2.2.1)) (PutText c.2.2.2.2.2.2.2.1) else []
abbrev spec_CmdBytes := CmdBytes
abbrev impl_CmdBytes := CmdBytes
theorem CmdOk_texts {c : Cmd} (h : CmdOk c = true) : c.2.2.2.2.2.2.1.length ≤ 30 ∧ c.2.2.2.2.2.2.2.1.length ≤ 30 := by
  unfold CmdOk at h
  split at h
  · simp only [Bool.and_eq_true, beq_iff_eq] at h
    obtain ⟨_, _, _, _, _, _, h1, h2⟩ := h
    rw [h1, h2]; simp
  · simp only [Bool.and_eq_true, wordsOk, decide_eq_true_eq] at h
    omega
theorem CmdBytes_len (c : Cmd) : (CmdBytes c).length ≤ 100 := by
  unfold CmdBytes
  split
  · rename_i h
    have h1 := CmdOk_texts h
    have h2 := nums_len [IntKind.wrap .i64 (c.1 + 1), c.2.1, c.2.2.1, c.2.2.2.1, c.2.2.2.2.1, c.2.2.2.2.2.1]
    have h3 := PutText_len c.2.2.2.2.2.2.1
    have h4 := PutText_len c.2.2.2.2.2.2.2.1
    simp only [List.append_eq, List.length_append, List.length_cons, List.length_nil] at *
    omega
  · simp
namespace spec_CmdBytes
abbrev wf (x0 : Cmd) : Prop := wfA [(.val (.pair (.int .i64) (.pair (.int .i64) (.pair (.int .i64) (.pair (.int .i64) (.pair (.int .i64) (.pair (.int .i64) (.pair .str (.pair .str .unit)))))))) .f)] (x0, ())
noncomputable def raw (x0 : Cmd) : Option (Unit × ((List Int) × Unit)) :=
 letB (CmdOk x0) fun v1 =>
 if (!v1) = true then
  some ((), (([] : List Int), ()))
 else
  if (spec_l7Nums.pre ((IntKind.wrap .i64 (x0.1 + (1 : Int))) :: (x0.2.1 :: (x0.2.2.1 :: (x0.2.2.2.1 :: (x0.2.2.2.2.1 :: (x0.2.2.2.2.2.1 :: ([] : List Int)))))))) = true then
   if (spec_PutText.pre x0.2.2.2.2.2.2.1) = true then
    letB (nums ((IntKind.wrap .i64 (x0.1 + (1 : Int))) :: (x0.2.1 :: (x0.2.2.1 :: (x0.2.2.2.1 :: (x0.2.2.2.2.1 :: (x0.2.2.2.2.2.1 :: ([] : List Int)))))))) fun v2 =>
    letB (PutText x0.2.2.2.2.2.2.1) fun v3 =>
    if (decide (List.length v2 + List.length v3 ≤ lim)) = true then
     if (spec_PutText.pre x0.2.2.2.2.2.2.2.1) = true then
      letB (PutText x0.2.2.2.2.2.2.2.1) fun v4 =>
      if (decide (List.length (List.append v2 v3) + List.length v4 ≤ lim)) = true then
       some ((), ((List.append (List.append v2 v3) v4), ()))
      else
       none
     else
      none
    else
     none
   else
    none
  else
   none
theorem eq (x0 : Cmd) (_ : wf x0) : raw x0 = some ((), (spec_CmdBytes x0, ())) := by
  unfold raw
  simp only [letB]
  by_cases h : CmdOk x0 = true
  case neg =>
    rw [if_pos (by simp [h])]
    unfold spec_CmdBytes CmdBytes
    rw [if_neg h]
  have h1 := CmdOk_texts h
  have h2 := nums_len [IntKind.wrap .i64 (x0.1 + 1), x0.2.1, x0.2.2.1, x0.2.2.2.1, x0.2.2.2.2.1, x0.2.2.2.2.2.1]
  have h3 := PutText_len x0.2.2.2.2.2.2.1
  have h4 := PutText_len x0.2.2.2.2.2.2.2.1
  simp only [List.length_cons, List.length_nil] at h2
  rw [if_neg (by simp [h]), if_pos (show spec_l7Nums.pre _ = true by simp [spec_l7Nums.pre, numsPre, small]), if_pos (show spec_PutText.pre _ = true by simp [spec_PutText.pre, txtPre]; omega),
    if_pos (by simp only [decide_eq_true_eq, lim]; omega), if_pos (show spec_PutText.pre _ = true by simp [spec_PutText.pre, txtPre]; omega), if_pos (by simp only [decide_eq_true_eq, lim, List.append_eq, List.length_append]; omega)]
  unfold spec_CmdBytes CmdBytes
  rw [if_pos h]
end spec_CmdBytes
namespace impl_CmdBytes
abbrev wf (x0 : Cmd) : Prop := wfA [(.val (.pair (.int .i64) (.pair (.int .i64) (.pair (.int .i64) (.pair (.int .i64) (.pair (.int .i64) (.pair (.int .i64) (.pair .str (.pair .str .unit)))))))) .f)] (x0, ())
noncomputable def raw (x0 : Cmd) : Option (Unit × ((List Int) × Unit)) :=
 letB (CmdOk x0) fun v1 =>
 if (!v1) = true then
  some ((), (([] : List Int), ()))
 else
  if (impl_nums.pre ((IntKind.wrap .i64 (x0.1 + (1 : Int))) :: (x0.2.1 :: (x0.2.2.1 :: (x0.2.2.2.1 :: (x0.2.2.2.2.1 :: (x0.2.2.2.2.2.1 :: ([] : List Int)))))))) = true then
   if (impl_PutText.pre x0.2.2.2.2.2.2.1) = true then
    if (impl_PutText.pre x0.2.2.2.2.2.2.2.1) = true then
     letB (nums ((IntKind.wrap .i64 (x0.1 + (1 : Int))) :: (x0.2.1 :: (x0.2.2.1 :: (x0.2.2.2.1 :: (x0.2.2.2.2.1 :: (x0.2.2.2.2.2.1 :: ([] : List Int)))))))) fun v2 =>
     letB (PutText x0.2.2.2.2.2.2.1) fun v3 =>
     letB (PutText x0.2.2.2.2.2.2.2.1) fun v4 =>
     if (slices_Concat_byte.pre (v2 :: (v3 :: (v4 :: ([] : List (List Int)))))) = true then
      letB (slices_Concat_byte (v2 :: (v3 :: (v4 :: ([] : List (List Int)))))) fun v5 =>
      some ((), (v5, ()))
     else
      none
    else
     none
   else
    none
  else
   none
theorem eq (x0 : Cmd) (_ : wf x0) : raw x0 = some ((), (impl_CmdBytes x0, ())) := by
  unfold raw
  simp only [letB]
  by_cases h : CmdOk x0 = true
  case neg =>
    rw [if_pos (by simp [h])]
    unfold impl_CmdBytes CmdBytes
    rw [if_neg h]
  have h1 := CmdOk_texts h
  have h2 := nums_len [IntKind.wrap .i64 (x0.1 + 1), x0.2.1, x0.2.2.1, x0.2.2.2.1, x0.2.2.2.2.1, x0.2.2.2.2.2.1]
  have h3 := PutText_len x0.2.2.2.2.2.2.1
  have h4 := PutText_len x0.2.2.2.2.2.2.2.1
  simp only [List.length_cons, List.length_nil] at h2
  rw [if_neg (by simp [h]), if_pos (show impl_nums.pre _ = true by simp [impl_nums.pre, numsPre, small]), if_pos (show impl_PutText.pre _ = true by simp [impl_PutText.pre, txtPre]; omega),
    if_pos (show impl_PutText.pre _ = true by simp [impl_PutText.pre, txtPre]; omega), if_pos (show slices_Concat_byte.pre _ = true by simp [slices_Concat_byte.pre, small]; omega)]
  unfold impl_CmdBytes CmdBytes
  rw [if_pos h]
  simp only [slices_Concat_byte, List.flatten_cons, List.flatten_nil, List.append_nil, List.append_eq, List.append_assoc]
end impl_CmdBytes
def entB (e : Entry) : List Int := PutNum e.1 ++ CmdBytes e.2.1
def ents (xs : List Entry) : List Int := xs.flatMap entB
theorem ents_len : (xs : List Entry) → (ents xs).length ≤ 105 * xs.length
  | [] => by simp [ents]
  | a :: r => by
    have := PutNum_len a.1
    have := CmdBytes_len a.2.1
    have := ents_len r
    simp only [ents, entB, List.flatMap_cons, List.length_append, List.length_cons] at *
    omega
def headB (r : Note) : List Int := PutNum r.1 ++ PutNum r.2.1 ++ PutNum (IntKind.wrap .i64 (r.2.2.1 + 1)) ++ PutNum r.2.2.2.1 ++ PutNum (r.2.2.2.2.1.length : Int)
theorem headB_len (r : Note) : (headB r).length ≤ 25 := by
  have h1 := PutNum_len r.1
  have h2 := PutNum_len r.2.1
  have h3 := PutNum_len (IntKind.wrap .i64 (r.2.2.1 + 1))
  have h4 := PutNum_len r.2.2.2.1
  have h5 := PutNum_len (r.2.2.2.2.1.length : Int)
  simp only [headB, List.length_append]; omega
def spec_l9Body (r : Note) : List Int := headB r ++ ents r.2.2.2.2.1 ++ PutText r.2.2.2.2.2.1
def NoteBytes (r : Note) : List Int := if NoteOk r = true then PutNum (spec_l9Body r).length ++ spec_l9Body r ++ sum4 (SumOf (spec_l9Body r)) else []
abbrev spec_NoteBytes := NoteBytes
abbrev impl_NoteBytes := NoteBytes
theorem NoteOk_len {r : Note} (h : NoteOk r = true) : r.2.2.2.2.1.length ≤ 40 ∧ r.2.2.2.2.2.1.length ≤ 30000 := by
  simp only [NoteOk, spec_l9List, Bool.and_eq_true, decide_eq_true_eq] at h
  omega
namespace spec_l9Body
def pre (r : Note) : Bool := decide (r.2.2.2.2.1.length ≤ 40) && decide (r.2.2.2.2.2.1.length ≤ 30000)
abbrev S := Int × (Note × (List Int × Unit))
def pre6 : S → Bool := fun s => decide (s.2.1.2.2.2.2.1.length ≤ 40) && (decide (0 ≤ s.1) && (decide (s.1.toNat ≤ s.2.1.2.2.2.2.1.length) && decide (s.2.2.1.length ≤ 25 + 105 * s.1.toNat)))
def fn6 : S → Note × (List Int × Unit) := fun s => (s.2.1, (s.2.2.1 ++ ents (s.2.1.2.2.2.2.1.drop s.1.toNat), ()))
def mu6 : S → Nat := fun s => s.2.1.2.2.2.2.1.length - s.1.toNat
noncomputable def raw6 (x1 : Int) (x2 : Note) (x3 : (List Int)) : Option ((Int × (Note × ((List Int) × Unit))) ⊕ (Note × ((List Int) × Unit))) :=
 if (decide (x1 < ((List.length x2.2.2.2.2.1 : Nat) : Int))) = true then
  if (decide ((0 : Int) ≤ x1)) = true then
   if (decide (x1 < ((List.length x2.2.2.2.2.1 : Nat) : Int))) = true then
    letB (PutNum (List.getD x2.2.2.2.2.1 (Int.toNat x1) ((0 : Int), (((0 : Int), ((0 : Int), ((0 : Int), ((0 : Int), ((0 : Int), ((0 : Int), (([] : List UInt8), (([] : List UInt8), ())))))))), ()))).1) fun v1 =>
    if (decide (List.length x3 + List.length v1 ≤ lim)) = true then
     letB (CmdBytes (List.getD x2.2.2.2.2.1 (Int.toNat x1) ((0 : Int), (((0 : Int), ((0 : Int), ((0 : Int), ((0 : Int), ((0 : Int), ((0 : Int), (([] : List UInt8), (([] : List UInt8), ())))))))), ()))).2.1) fun v2 =>
     if (decide (List.length (List.append x3 v1) + List.length v2 ≤ lim)) = true then
      some (.inl ((IntKind.wrap .i64 (x1 + (1 : Int))), (x2, ((List.append (List.append x3 v1) v2), ()))))
     else
      none
    else
     none
   else
    none
  else
   none
 else
  some (.inr (x2, (x3, ())))
abbrev wf (x0 : Note) : Prop := wfA [(.val (.pair (.int .i64) (.pair (.int .i64) (.pair (.int .i64) (.pair (.int .i64) (.pair (.sl 0 (.pair (.int .i64) (.pair (.pair (.int .i64) (.pair (.int .i64) (.pair (.int .i64) (.pair (.int .i64) (.pair (.int .i64) (.pair (.int .i64) (.pair .str (.pair .str .unit)))))))) .unit))) (.pair .str .unit)))))) .f)] (x0, ())
noncomputable def raw (x0 : Note) : Option (Unit × ((List Int) × Unit)) :=
 letB (PutNum x0.1) fun v1 =>
 letB (PutNum x0.2.1) fun v2 =>
 if (decide (List.length v1 + List.length v2 ≤ lim)) = true then
  letB (PutNum (IntKind.wrap .i64 (x0.2.2.1 + (1 : Int)))) fun v3 =>
  if (decide (List.length (List.append v1 v2) + List.length v3 ≤ lim)) = true then
   letB (PutNum x0.2.2.2.1) fun v4 =>
   if (decide (List.length (List.append (List.append v1 v2) v3) + List.length v4 ≤ lim)) = true then
    letB (PutNum ((List.length x0.2.2.2.2.1 : Nat) : Int)) fun v5 =>
    if (decide (List.length (List.append (List.append (List.append v1 v2) v3) v4) + List.length v5 ≤ lim)) = true then
     if (spec_l9Body.pre6 ((0 : Int), (x0, ((List.append (List.append (List.append (List.append v1 v2) v3) v4) v5), ())))) = true then
      letB (spec_l9Body.fn6 ((0 : Int), (x0, ((List.append (List.append (List.append (List.append v1 v2) v3) v4) v5), ())))) fun v6 =>
      if (spec_PutText.pre v6.1.2.2.2.2.2.1) = true then
       letB (PutText v6.1.2.2.2.2.2.1) fun v7 =>
       if (decide (List.length v6.2.1 + List.length v7 ≤ lim)) = true then
        some ((), ((List.append v6.2.1 v7), ()))
       else
        none
      else
       none
     else
      none
    else
     none
   else
    none
  else
   none
 else
  none
theorem ok6 (x1 : Int) (x2 : Note) (x3 : List Int) (hp : pre6 (x1, (x2, (x3, ()))) = true) : Rounds pre6 mu6 fn6 (x1, (x2, (x3, ()))) (raw6 x1 x2 x3) := by
  simp only [pre6, Bool.and_eq_true, decide_eq_true_eq] at hp
  obtain ⟨h1, h2, h3, h4⟩ := hp
  unfold raw6
  by_cases hlt : x1 < (x2.2.2.2.2.1.length : Int)
  · have hn : x1.toNat < x2.2.2.2.2.1.length := by omega
    have e1 := List.drop_eq_getElem_cons hn
    have h5 := PutNum_len (x2.2.2.2.2.1[x1.toNat]).1
    have h6 := CmdBytes_len (x2.2.2.2.2.1[x1.toNat]).2.1
    simp only [letB]
    rw [if_pos (by simp [hlt]), if_pos (by simp [h2]), if_pos (by simp [hlt]), getD_get hn, if_pos (by simp only [decide_eq_true_eq, lim]; omega), if_pos (by simp only [decide_eq_true_eq, lim, List.append_eq, List.length_append]; omega), w64 (n := x1 + 1) (by omega) (by omega)]
    simp only [Rounds]
    refine ⟨?_, by simp only [mu6]; omega, ?_⟩
    · simp only [pre6, Bool.and_eq_true, decide_eq_true_eq, List.append_eq, List.length_append]; omega
    · simp only [fn6, show (x1 + 1).toNat = x1.toNat + 1 by omega, e1, ents, entB, List.flatMap_cons, List.append_eq, List.append_assoc]
  · rw [if_neg (by simp [hlt])]
    simp only [Rounds, fn6]
    rw [List.drop_eq_nil_of_le (by omega)]
    simp [ents]
theorem eq (x0 : Note) (_ : wf x0) (hp : pre x0 = true) : raw x0 = some ((), (spec_l9Body x0, ())) := by
  simp only [pre, Bool.and_eq_true, decide_eq_true_eq] at hp
  obtain ⟨h1, h2⟩ := hp
  have hh := headB_len x0
  have he := ents_len x0.2.2.2.2.1
  have ht := PutText_len x0.2.2.2.2.2.1
  simp only [headB, List.length_append] at hh
  unfold raw
  simp only [letB, List.append_eq, List.length_append]
  rw [if_pos (by simp only [decide_eq_true_eq, lim]; omega), if_pos (by simp only [decide_eq_true_eq, lim]; omega), if_pos (by simp only [decide_eq_true_eq, lim]; omega), if_pos (by simp only [decide_eq_true_eq, lim]; omega),
    if_pos (show pre6 _ = true by simp only [pre6, Bool.and_eq_true, decide_eq_true_eq, List.length_append]; omega)]
  have hf : ∀ o : List Int, fn6 ((0 : Int), (x0, (o, ()))) = (x0, (o ++ ents x0.2.2.2.2.1, ())) := fun o => rfl
  simp only [hf]
  rw [if_pos (show spec_PutText.pre _ = true by simp [spec_PutText.pre, txtPre]; omega), if_pos (by simp only [decide_eq_true_eq, lim, List.length_append]; omega)]
  rfl
end spec_l9Body
theorem body_len {r : Note} (h : r.2.2.2.2.1.length ≤ 40 ∧ r.2.2.2.2.2.1.length ≤ 30000) : (spec_l9Body r).length ≤ 40000 := by
  have hh := headB_len r
  have he := ents_len r.2.2.2.2.1
  have ht := PutText_len r.2.2.2.2.2.1
  simp only [spec_l9Body, List.length_append]; omega
namespace spec_NoteBytes
abbrev wf (x0 : Note) : Prop := wfA [(.val (.pair (.int .i64) (.pair (.int .i64) (.pair (.int .i64) (.pair (.int .i64) (.pair (.sl 0 (.pair (.int .i64) (.pair (.pair (.int .i64) (.pair (.int .i64) (.pair (.int .i64) (.pair (.int .i64) (.pair (.int .i64) (.pair (.int .i64) (.pair .str (.pair .str .unit)))))))) .unit))) (.pair .str .unit)))))) .f)] (x0, ())
noncomputable def raw (x0 : Note) : Option (Unit × ((List Int) × Unit)) :=
 letB (NoteOk x0) fun v1 =>
 if (!v1) = true then
  some ((), (([] : List Int), ()))
 else
  if (spec_l9Body.pre x0) = true then
   letB (spec_l9Body x0) fun v2 =>
   letB (PutNum ((List.length v2 : Nat) : Int)) fun v3 =>
   if (decide (List.length v3 + List.length v2 ≤ lim)) = true then
    letB (spec_l9Sum v2) fun v4 =>
    if (decide (List.length (List.append v3 v2) + List.length v4 ≤ lim)) = true then
     some ((), ((List.append (List.append v3 v2) v4), ()))
    else
     none
   else
    none
  else
   none
theorem eq (x0 : Note) (_ : wf x0) : raw x0 = some ((), (spec_NoteBytes x0, ())) := by
  unfold raw
  simp only [letB]
  by_cases h : NoteOk x0 = true
  case neg =>
    rw [if_pos (by simp [h])]
    unfold spec_NoteBytes NoteBytes
    rw [if_neg h]
  have hl := NoteOk_len h
  have hb := body_len hl
  have hp := PutNum_len ((spec_l9Body x0).length : Int)
  rw [if_neg (by simp [h]), if_pos (show spec_l9Body.pre _ = true by simp [spec_l9Body.pre]; omega), if_pos (by simp only [decide_eq_true_eq, lim]; omega),
    if_pos (by simp only [decide_eq_true_eq, lim, List.append_eq, List.length_append, spec_l9Sum, sum4, List.length_cons, List.length_nil]; omega)]
  unfold spec_NoteBytes NoteBytes
  rw [if_pos h]
  rfl
end spec_NoteBytes
namespace impl_NoteBytes
abbrev S := List Entry × (Int × (Int × (Note × (List Int × Unit))))
def pre5 : S → Bool := fun s => decide (s.1.length ≤ 40) && (decide (s.2.1 = (s.1.length : Int)) && (decide (0 ≤ s.2.2.1) && (decide (s.2.2.1.toNat ≤ s.1.length) && decide (s.2.2.2.2.1.length ≤ 25 + 105 * s.2.2.1.toNat))))
def fn5 : S → Note × (List Int × Unit) := fun s => (s.2.2.2.1, (s.2.2.2.2.1 ++ ents (s.1.drop s.2.2.1.toNat), ()))
def mu5 : S → Nat := fun s => s.1.length - s.2.2.1.toNat
noncomputable def raw5 (x1 : (List Entry)) (x2 : Int) (x3 : Int) (x4 : Note) (x5 : (List Int)) : Option (((List Entry) × (Int × (Int × (Note × ((List Int) × Unit))))) ⊕ (Note × ((List Int) × Unit))) :=
 if (decide (x3 < x2)) = true then
  if (decide ((0 : Int) ≤ x3)) = true then
   if (decide (x3 < ((List.length x1 : Nat) : Int))) = true then
    if (impl_nums.pre ((List.getD x1 (Int.toNat x3) ((0 : Int), (((0 : Int), ((0 : Int), ((0 : Int), ((0 : Int), ((0 : Int), ((0 : Int), (([] : List UInt8), (([] : List UInt8), ())))))))), ()))).1 :: ([] : List Int))) = true then
     letB (nums ((List.getD x1 (Int.toNat x3) ((0 : Int), (((0 : Int), ((0 : Int), ((0 : Int), ((0 : Int), ((0 : Int), ((0 : Int), (([] : List UInt8), (([] : List UInt8), ())))))))), ()))).1 :: ([] : List Int))) fun v1 =>
     letB (CmdBytes (List.getD x1 (Int.toNat x3) ((0 : Int), (((0 : Int), ((0 : Int), ((0 : Int), ((0 : Int), ((0 : Int), ((0 : Int), (([] : List UInt8), (([] : List UInt8), ())))))))), ()))).2.1) fun v2 =>
     if (slices_Concat_byte.pre (x5 :: (v1 :: (v2 :: ([] : List (List Int)))))) = true then
      letB (slices_Concat_byte (x5 :: (v1 :: (v2 :: ([] : List (List Int)))))) fun v3 =>
      some (.inl (x1, (x2, ((IntKind.wrap .i64 (x3 + (1 : Int))), (x4, (v3, ()))))))
     else
      none
    else
     none
   else
    none
  else
   none
 else
  some (.inr (x4, (x5, ())))
abbrev wf (x0 : Note) : Prop := wfA [(.val (.pair (.int .i64) (.pair (.int .i64) (.pair (.int .i64) (.pair (.int .i64) (.pair (.sl 0 (.pair (.int .i64) (.pair (.pair (.int .i64) (.pair (.int .i64) (.pair (.int .i64) (.pair (.int .i64) (.pair (.int .i64) (.pair (.int .i64) (.pair .str (.pair .str .unit)))))))) .unit))) (.pair .str .unit)))))) .f)] (x0, ())
noncomputable def raw (x0 : Note) : Option (Unit × ((List Int) × Unit)) :=
 letB (NoteOk x0) fun v1 =>
 if (!v1) = true then
  some ((), (([] : List Int), ()))
 else
  if (impl_nums.pre (x0.1 :: (x0.2.1 :: ((IntKind.wrap .i64 (x0.2.2.1 + (1 : Int))) :: (x0.2.2.2.1 :: (((List.length x0.2.2.2.2.1 : Nat) : Int) :: ([] : List Int))))))) = true then
   letB (nums (x0.1 :: (x0.2.1 :: ((IntKind.wrap .i64 (x0.2.2.1 + (1 : Int))) :: (x0.2.2.2.1 :: (((List.length x0.2.2.2.2.1 : Nat) : Int) :: ([] : List Int))))))) fun v2 =>
   if (impl_NoteBytes.pre5 (x0.2.2.2.2.1, (((List.length x0.2.2.2.2.1 : Nat) : Int), ((0 : Int), (x0, (v2, ())))))) = true then
    letB (impl_NoteBytes.fn5 (x0.2.2.2.2.1, (((List.length x0.2.2.2.2.1 : Nat) : Int), ((0 : Int), (x0, (v2, ())))))) fun v3 =>
    if (impl_PutText.pre v3.1.2.2.2.2.2.1) = true then
     letB (PutText v3.1.2.2.2.2.2.1) fun v4 =>
     if (decide (List.length v3.2.1 + List.length v4 ≤ lim)) = true then
      if (impl_nums.pre (((List.length (List.append v3.2.1 v4) : Nat) : Int) :: ([] : List Int))) = true then
       if (decide ((0 : Int) ≤ (8 : Int))) = true then
        if (decide ((0 : Int) ≤ (16 : Int))) = true then
         if (decide ((0 : Int) ≤ (24 : Int))) = true then
          letB (nums (((List.length (List.append v3.2.1 v4) : Nat) : Int) :: ([] : List Int))) fun v5 =>
          letB (SumOf (List.append v3.2.1 v4)) fun v6 =>
          if (slices_Concat_byte.pre (v5 :: ((List.append v3.2.1 v4) :: (((IntKind.wrap .u8 v6) :: ((IntKind.wrap .u8 (Int.fdiv v6 (2 ^ min (Int.toNat (8 : Int)) (IntKind.bits .i64)))) :: ((IntKind.wrap .u8 (Int.fdiv v6 (2 ^ min (Int.toNat (16 : Int)) (IntKind.bits .i64)))) :: ((IntKind.wrap .u8 (Int.fdiv v6 (2 ^ min (Int.toNat (24 : Int)) (IntKind.bits .i64)))) :: ([] : List Int))))) :: ([] : List (List Int)))))) = true then
           letB (slices_Concat_byte (v5 :: ((List.append v3.2.1 v4) :: (((IntKind.wrap .u8 v6) :: ((IntKind.wrap .u8 (Int.fdiv v6 (2 ^ min (Int.toNat (8 : Int)) (IntKind.bits .i64)))) :: ((IntKind.wrap .u8 (Int.fdiv v6 (2 ^ min (Int.toNat (16 : Int)) (IntKind.bits .i64)))) :: ((IntKind.wrap .u8 (Int.fdiv v6 (2 ^ min (Int.toNat (24 : Int)) (IntKind.bits .i64)))) :: ([] : List Int))))) :: ([] : List (List Int)))))) fun v7 =>
           some ((), (v7, ()))
          else
           none
         else
          none
        else
         none
       else
        none
      else
       none
     else
      none
    else
     none
   else
    none
  else
   none
theorem ok5 (x1 : List Entry) (x2 x3 : Int) (x4 : Note) (x5 : List Int) (hp : pre5 (x1, (x2, (x3, (x4, (x5, ()))))) = true) : Rounds pre5 mu5 fn5 (x1, (x2, (x3, (x4, (x5, ()))))) (raw5 x1 x2 x3 x4 x5) := by
  simp only [pre5, Bool.and_eq_true, decide_eq_true_eq] at hp
  obtain ⟨h1, rfl, h2, h3, h4⟩ := hp
  unfold raw5
  by_cases hlt : x3 < (x1.length : Int)
  · have hn : x3.toNat < x1.length := by omega
    have e1 := List.drop_eq_getElem_cons hn
    have h5 := PutNum_len (x1[x3.toNat]).1
    have h6 := CmdBytes_len (x1[x3.toNat]).2.1
    simp only [letB]
    rw [if_pos (by simp [hlt]), if_pos (by simp [h2]), if_pos (by simp [hlt]), getD_get hn, if_pos (show impl_nums.pre _ = true by simp [impl_nums.pre, numsPre, small]),
      if_pos (show slices_Concat_byte.pre _ = true by simp [slices_Concat_byte.pre, small, nums]; omega), w64 (n := x3 + 1) (by omega) (by omega)]
    simp only [Rounds]
    have hc : slices_Concat_byte [x5, nums [(x1[x3.toNat]).1], CmdBytes (x1[x3.toNat]).2.1] = x5 ++ entB x1[x3.toNat] := by simp [slices_Concat_byte, nums, entB]
    rw [hc]
    refine ⟨?_, by simp only [mu5]; omega, ?_⟩
    · simp only [pre5, Bool.and_eq_true, decide_eq_true_eq, List.length_append, entB]; exact ⟨h1, trivial, by omega, by omega, by omega⟩
    · simp only [fn5, show (x3 + 1).toNat = x3.toNat + 1 by omega, e1, ents, List.flatMap_cons, List.append_assoc]
  · rw [if_neg (by simp [hlt])]
    simp only [Rounds, fn5]
    rw [List.drop_eq_nil_of_le (by omega)]
    simp [ents]
theorem eq (x0 : Note) (_ : wf x0) : raw x0 = some ((), (impl_NoteBytes x0, ())) := by
  unfold raw
  simp only [letB]
  by_cases h : NoteOk x0 = true
  case neg =>
    rw [if_pos (by simp [h])]
    unfold impl_NoteBytes NoteBytes
    rw [if_neg h]
  have hl := NoteOk_len h
  have hb := body_len hl
  have hp := PutNum_len ((spec_l9Body x0).length : Int)
  have hh := headB_len x0
  have hn : nums [x0.1, x0.2.1, IntKind.wrap .i64 (x0.2.2.1 + 1), x0.2.2.2.1, (x0.2.2.2.2.1.length : Int)] = headB x0 := by simp [nums, headB]
  have hf : fn5 (x0.2.2.2.2.1, ((x0.2.2.2.2.1.length : Int), ((0 : Int), (x0, (headB x0, ()))))) = (x0, (headB x0 ++ ents x0.2.2.2.2.1, ())) := rfl
  have hbd : List.append (headB x0 ++ ents x0.2.2.2.2.1) (PutText x0.2.2.2.2.2.1) = spec_l9Body x0 := rfl
  have he : (headB x0 ++ ents x0.2.2.2.2.1).length + (PutText x0.2.2.2.2.2.1).length ≤ 40000 := by
    simp only [spec_l9Body, List.length_append] at hb; simp only [List.length_append]; omega
  rw [if_neg (by simp [h]), if_pos (show impl_nums.pre _ = true by simp [impl_nums.pre, numsPre, small]), hn,
    if_pos (show pre5 _ = true by simp only [pre5, Bool.and_eq_true, decide_eq_true_eq]; exact ⟨hl.1, trivial, by omega, by omega, by omega⟩), hf]
  simp only [hbd]
  rw [if_pos (show impl_PutText.pre _ = true by simp [impl_PutText.pre, txtPre]; omega), if_pos (by simp only [decide_eq_true_eq, lim]; omega), if_pos (show impl_nums.pre _ = true by simp [impl_nums.pre, numsPre, small]),
    if_pos (by decide), if_pos (by decide), if_pos (by decide), if_pos (show slices_Concat_byte.pre _ = true by simp [slices_Concat_byte.pre, small, nums]; omega)]
  unfold impl_NoteBytes NoteBytes
  rw [if_pos h]
  simp [slices_Concat_byte, nums, sum4]
end impl_NoteBytes
section
variable {α : Type}
theorem getD_modify {xs : List α} {i : Nat} {f : α → α} {d : α} (h : i < xs.length) : (xs.modify i f).getD i d = f (xs.getD i d) := by
  rw [getD_get (by rw [List.length_modify]; exact h), getD_get h, List.getElem_modify, if_pos rfl]
def cntL (g : α → Int) : List α → Int
  | [] => 0
  | a :: r => g a + cntL g r
def mkL (m : α → Int → α) (g : α → Int) : List α → Int → List α
  | [], _ => []
  | a :: r, k => m a k :: mkL m g r (k + g a)
structure MkOk (m : α → Int → α) (g : α → Int) : Prop where
  pos : ∀ x, 1 ≤ g x
  keep : ∀ x k, g (m x k) = g x
  idem : ∀ x k, m (m x k) k = m x k
theorem cntL_len {m : α → Int → α} {g : α → Int} (ok : MkOk m g) : (xs : List α) → (xs.length : Int) ≤ cntL g xs
  | [] => by simp [cntL]
  | a :: r => by
    have := ok.pos a
    have := cntL_len ok r
    simp only [cntL, List.length_cons]; omega
theorem cntL_nn {m : α → Int → α} {g : α → Int} (ok : MkOk m g) (xs : List α) : 0 ≤ cntL g xs := by
  have := cntL_len ok xs
  omega
theorem cntL_mkL {m : α → Int → α} {g : α → Int} (ok : MkOk m g) : (xs : List α) → (k : Int) → cntL g (mkL m g xs k) = cntL g xs
  | [], _ => rfl
  | a :: r, k => by simp only [mkL, cntL, ok.keep, cntL_mkL ok r]
theorem mkL_mkL {m : α → Int → α} {g : α → Int} (ok : MkOk m g) : (xs : List α) → (k : Int) → mkL m g (mkL m g xs k) k = mkL m g xs k
  | [], _ => rfl
  | a :: r, k => by simp only [mkL, ok.keep, ok.idem, mkL_mkL ok r]
abbrev MkS (α : Type) := Int × (Int × (List α × Unit))
def mkPre (g : α → Int) : MkS α → Bool := fun s => decide (0 ≤ s.1) && (decide (0 ≤ s.2.1) && (decide (s.2.1.toNat ≤ s.2.2.1.length) && (decide (s.2.2.1.length ≤ 134217728) && decide (s.1 + cntL g (s.2.2.1.drop s.2.1.toNat) ≤ 134217728))))
def mkFn (m : α → Int → α) (g : α → Int) : MkS α → Int × (List α × Unit) := fun s => (s.1 + cntL g (s.2.2.1.drop s.2.1.toNat), (s.2.2.1.take s.2.1.toNat ++ mkL m g (s.2.2.1.drop s.2.1.toNat) s.1, ()))
def mkMu : MkS α → Nat := fun s => s.2.2.1.length - s.2.1.toNat
theorem mk_facts {m : α → Int → α} {g : α → Int} (ok : MkOk m g) {k i : Int} {xs : List α} (hp : mkPre g (k, (i, (xs, ()))) = true) (hlt : i < (xs.length : Int)) (d : α) :
    0 ≤ i ∧ 0 ≤ k ∧ k + g (xs.getD i.toNat d) ≤ 134217728 ∧ i.toNat < xs.length := by
  simp only [mkPre, Bool.and_eq_true, decide_eq_true_eq] at hp
  obtain ⟨h1, h2, h3, h4, h5⟩ := hp
  have hn : i.toNat < xs.length := by omega
  rw [getD_get hn]
  rw [List.drop_eq_getElem_cons hn] at h5
  have := cntL_nn ok (xs.drop (i.toNat + 1))
  simp only [cntL] at h5
  exact ⟨h2, h1, by omega, hn⟩
theorem mk_step {m : α → Int → α} {g : α → Int} (ok : MkOk m g) {k i : Int} {xs : List α} (hp : mkPre g (k, (i, (xs, ()))) = true) (hlt : i < (xs.length : Int)) (d : α)
    {K : Int} {f : α → α} (hK : K = k + g (xs.getD i.toNat d)) (hf : f (xs.getD i.toNat d) = m (xs.getD i.toNat d) k) :
    Rounds (mkPre g) mkMu (mkFn m g) (k, (i, (xs, ()))) (some (.inl (K, (IntKind.wrap .i64 (i + 1), (xs.modify i.toNat f, ()))))) := by
  have hfa := mk_facts ok hp hlt d
  simp only [mkPre, Bool.and_eq_true, decide_eq_true_eq] at hp
  obtain ⟨h1, h2, h3, h4, h5⟩ := hp
  have hn : i.toNat < xs.length := by omega
  rw [getD_get hn] at *
  have hpos := ok.pos xs[i.toNat]
  have hd : (xs.modify i.toNat f).drop (i.toNat + 1) = xs.drop (i.toNat + 1) := by
    rw [List.drop_modify_of_lt]; omega
  have ht : (xs.modify i.toNat f).take (i.toNat + 1) = xs.take i.toNat ++ [m xs[i.toNat] k] := by
    rw [List.take_add_one, List.getElem?_eq_getElem (by rw [List.length_modify]; exact hn), List.getElem_modify, if_pos rfl, hf]
    congr 1
    apply List.ext_getElem?
    intro j
    rw [List.getElem?_take, List.getElem?_take]
    split
    · rw [List.getElem?_modify]
      have hne : ¬ i.toNat = j := by omega
      simp only [hne, if_false]
      cases xs[j]? <;> rfl
    · rfl
  rw [List.drop_eq_getElem_cons hn] at h5
  simp only [cntL] at h5
  simp only [Rounds, w64 (n := i + 1) (by omega) (by omega)]
  have ei : (i + 1).toNat = i.toNat + 1 := by omega
  refine ⟨?_, by simp only [mkMu, List.length_modify]; omega, ?_⟩
  · simp only [mkPre, Bool.and_eq_true, decide_eq_true_eq, List.length_modify, ei, hd]
    omega
  · simp only [mkFn, ei, hd, ht]
    conv => rhs; rw [List.drop_eq_getElem_cons hn]
    simp only [cntL, mkL, hK, List.append_assoc, List.cons_append, List.nil_append, Int.add_assoc]
theorem mk_end {m : α → Int → α} {g : α → Int} {k i : Int} {xs : List α} (hp : mkPre g (k, (i, (xs, ()))) = true) (hlt : ¬ i < (xs.length : Int)) :
    Rounds (mkPre g) mkMu (mkFn m g) (k, (i, (xs, ()))) (some (.inr (k, (xs, ())))) := by
  simp only [mkPre, Bool.and_eq_true, decide_eq_true_eq] at hp
  obtain ⟨h1, h2, h3, h4, h5⟩ := hp
  simp only [Rounds, mkFn]
  rw [List.drop_eq_nil_of_le (by omega), List.take_of_length_le (by omega)]
  simp [cntL, mkL]
def mPre (g : α → Int) (xs : List α) (k : Int) : Bool := decide (0 ≤ k) && decide (k + cntL g xs ≤ 134217728)
theorem mPre_iff {g : α → Int} {xs : List α} {k : Int} : mPre g xs k = true ↔ 0 ≤ k ∧ k + cntL g xs ≤ 134217728 := by simp [mPre]
theorem mk_start {m : α → Int → α} {g : α → Int} (ok : MkOk m g) {xs : List α} {k : Int} (h : mPre g xs k = true) : mkPre g (k, ((0 : Int), (xs, ()))) = true := by
  rw [mPre_iff] at h
  have := cntL_len ok xs
  simp only [mkPre, Bool.and_eq_true, decide_eq_true_eq, Int.toNat_zero, List.drop_zero]
  omega
noncomputable def heldN (m : α → Int → α) (g : α → Int) (x : α) (k : Int) : Int := cond (same x (m x k)) (k + g x) (-1)
theorem heldN_pos {m : α → Int → α} {g : α → Int} {x : α} {k : Int} (h : x = m x k) : heldN m g x k = k + g x := by
  rw [heldN, same_true.2 h]; rfl
theorem heldN_neg {m : α → Int → α} {g : α → Int} {x : α} {k : Int} (h : ¬ x = m x k) : heldN m g x k = -1 := by
  rw [heldN, same_false.2 h]; rfl
abbrev HeS (α : Type) := List α × (Int × (Int × Unit))
def hePre (g : α → Int) : HeS α → Bool := fun s => decide (0 ≤ s.2.1) && (decide (0 ≤ s.2.2.1) && (decide (s.2.2.1.toNat ≤ s.1.length) && (decide (s.1.length ≤ 134217728) && decide (s.2.1 + cntL g (s.1.drop s.2.2.1.toNat) ≤ 134217728))))
noncomputable def heFn (m : α → Int → α) (g : α → Int) : HeS α → (Int × Unit) ⊕ (Int × Unit) := fun s =>
  cond (same (s.1.drop s.2.2.1.toNat) (mkL m g (s.1.drop s.2.2.1.toNat) s.2.1)) (.inr (s.2.1 + cntL g (s.1.drop s.2.2.1.toNat), ())) (.inl (-1, ()))
def heMu : HeS α → Nat := fun s => s.1.length - s.2.2.1.toNat
theorem he_facts {m : α → Int → α} {g : α → Int} (ok : MkOk m g) {k i : Int} {xs : List α} (hp : hePre g (xs, (k, (i, ()))) = true) (hlt : i < (xs.length : Int)) (d : α) :
    0 ≤ i ∧ 0 ≤ k ∧ k + g (xs.getD i.toNat d) ≤ 134217728 := by
  simp only [hePre, Bool.and_eq_true, decide_eq_true_eq] at hp
  obtain ⟨h1, h2, h3, h4, h5⟩ := hp
  have hn : i.toNat < xs.length := by omega
  rw [getD_get hn]
  rw [List.drop_eq_getElem_cons hn] at h5
  have := cntL_nn ok (xs.drop (i.toNat + 1))
  simp only [cntL] at h5
  exact ⟨h2, h1, by omega⟩
theorem he_good {m : α → Int → α} {g : α → Int} (ok : MkOk m g) {k i : Int} {xs : List α} (hp : hePre g (xs, (k, (i, ()))) = true) (hlt : i < (xs.length : Int)) (d : α)
    {K : Int} (hK : K = k + g (xs.getD i.toNat d)) (he : xs.getD i.toNat d = m (xs.getD i.toNat d) k) :
    Rounds (hePre g) heMu (heFn m g) (xs, (k, (i, ()))) (some (.inl (xs, (K, (IntKind.wrap .i64 (i + 1), ()))))) := by
  simp only [hePre, Bool.and_eq_true, decide_eq_true_eq] at hp
  obtain ⟨h1, h2, h3, h4, h5⟩ := hp
  have hn : i.toNat < xs.length := by omega
  rw [getD_get hn] at *
  have hpos := ok.pos xs[i.toNat]
  rw [List.drop_eq_getElem_cons hn] at h5
  simp only [cntL] at h5
  have ei : (i + 1).toNat = i.toNat + 1 := by omega
  simp only [Rounds, w64 (n := i + 1) (by omega) (by omega)]
  refine ⟨?_, by simp only [heMu]; omega, ?_⟩
  · simp only [hePre, Bool.and_eq_true, decide_eq_true_eq, ei]
    omega
  · simp only [heFn, ei]
    rw [List.drop_eq_getElem_cons hn]
    simp only [mkL, cntL]
    subst hK
    by_cases hc : xs.drop (i.toNat + 1) = mkL m g (xs.drop (i.toNat + 1)) (k + g xs[i.toNat])
    · rw [same_true.2 hc, same_true.2 (List.cons.injEq .. ▸ ⟨he, hc⟩), Int.add_assoc]
    · rw [same_false.2 hc, same_false.2 (fun h => hc (List.cons.inj h).2)]; rfl
theorem he_bad {m : α → Int → α} {g : α → Int} {k i : Int} {xs : List α} (hp : hePre g (xs, (k, (i, ()))) = true) (hlt : i < (xs.length : Int)) (d : α)
    (he : ¬ xs.getD i.toNat d = m (xs.getD i.toNat d) k) :
    Rounds (hePre g) heMu (heFn m g) (xs, (k, (i, ()))) (some (.inr (.inl (-1, ())))) := by
  simp only [hePre, Bool.and_eq_true, decide_eq_true_eq] at hp
  obtain ⟨h1, h2, h3, h4, h5⟩ := hp
  have hn : i.toNat < xs.length := by omega
  rw [getD_get hn] at he
  simp only [Rounds, heFn]
  rw [List.drop_eq_getElem_cons hn]
  simp only [mkL]
  rw [same_false.2 (fun h => he (List.cons.inj h).1)]
  rfl
theorem he_end {m : α → Int → α} {g : α → Int} {k i : Int} {xs : List α} (hp : hePre g (xs, (k, (i, ()))) = true) (hlt : ¬ i < (xs.length : Int)) :
    Rounds (hePre g) heMu (heFn m g) (xs, (k, (i, ()))) (some (.inr (.inr (k, ())))) := by
  simp only [hePre, Bool.and_eq_true, decide_eq_true_eq] at hp
  obtain ⟨h1, h2, h3, h4, h5⟩ := hp
  simp only [Rounds, heFn]
  rw [List.drop_eq_nil_of_le (by omega)]
  simp only [mkL, cntL, Int.add_zero]
  rw [same_self]
  rfl
theorem he_start {m : α → Int → α} {g : α → Int} (ok : MkOk m g) {xs : List α} {k : Int} (h : mPre g xs k = true) : hePre g (xs, (k, ((0 : Int), ()))) = true := by
  rw [mPre_iff] at h
  have := cntL_len ok xs
  simp only [hePre, Bool.and_eq_true, decide_eq_true_eq, Int.toNat_zero, List.drop_zero]
  omega
theorem heFn_start {m : α → Int → α} {g : α → Int} (xs : List α) (k : Int) :
    (match heFn m g (xs, (k, ((0 : Int), ()))) with | .inl y => some ((), y) | .inr y => some ((), y)) = some ((), (heldN (mkL m g) (cntL g) xs k, ())) := by
  have e : heFn m g (xs, (k, ((0 : Int), ()))) = cond (same xs (mkL m g xs k)) (.inr (k + cntL g xs, ())) (.inl (-1, ())) := rfl
  rw [e]
  by_cases h : xs = mkL m g xs k
  · rw [same_true.2 h, heldN_pos h]; rfl
  · rw [same_false.2 h, heldN_neg h]; rfl
end
def mk_Byte (_ : Int) (k : Int) : Int := IntKind.wrap .u8 k
def cnt_Byte (_ : Int) : Int := 1
theorem mk_Byte_ok : MkOk mk_Byte cnt_Byte := ⟨fun _ => Int.le_refl _, fun _ _ => rfl, fun _ _ => rfl⟩
noncomputable def laws_eqByteS (a b : List Int) : Bool := same a b
namespace laws_eqByteS
def pre4 := eqPre (α := Int)
noncomputable def fn4 := eqFn (α := Int)
def mu4 := eqMu (α := Int)
noncomputable def raw4 (x1 : (List Int)) (x2 : (List Int)) (x3 : Int) : Option (((List Int) × ((List Int) × (Int × Unit))) ⊕ ((Bool × Unit) ⊕ Unit)) :=
 if (decide (x3 < ((List.length x1 : Nat) : Int))) = true then
  if (decide ((0 : Int) ≤ x3)) = true then
   if (decide (x3 < ((List.length x1 : Nat) : Int))) = true then
    if (decide ((0 : Int) ≤ x3)) = true then
     if (decide (x3 < ((List.length x2 : Nat) : Int))) = true then
      if (!(decide ((List.getD x1 (Int.toNat x3) (0 : Int)) = (List.getD x2 (Int.toNat x3) (0 : Int))))) = true then
       some (.inr (.inl (false, ())))
      else
       some (.inl (x1, (x2, ((IntKind.wrap .i64 (x3 + (1 : Int))), ()))))
     else
      none
    else
     none
   else
    none
  else
   none
 else
  some (.inr (.inr ()))
abbrev wf (x0 : (List Int)) (x1 : (List Int)) : Prop := wfA [(.val (.sl 0 (.int .u8)) .f), (.val (.sl 0 (.int .u8)) .f)] (x0, (x1, ()))
noncomputable def raw (x0 : (List Int)) (x1 : (List Int)) : Option (Unit × (Bool × Unit)) :=
 if (!(decide (((List.length x0 : Nat) : Int) = ((List.length x1 : Nat) : Int)))) = true then
  some ((), (false, ()))
 else
  if (laws_eqByteS.pre4 (x0, (x1, ((0 : Int), ())))) = true then
   letB (laws_eqByteS.fn4 (x0, (x1, ((0 : Int), ())))) fun v1 =>
   match v1 with
   | .inl y =>
    some ((), y)
   | .inr y =>
    some ((), (true, ()))
  else
   none
theorem ok4 (x1 x2 : List Int) (x3 : Int) (hp : pre4 (x1, (x2, (x3, ()))) = true) : Rounds pre4 mu4 fn4 (x1, (x2, (x3, ()))) (raw4 x1 x2 x3) := by
  unfold raw4
  by_cases hlt : x3 < (x1.length : Int)
  · obtain ⟨h1, h2, h3, h4⟩ := eq_next hp hlt (0 : Int)
    simp only [letB, hlt, h1, h2, decide_true, if_true]
    by_cases h : x1.getD x3.toNat (0 : Int) = x2.getD x3.toNat (0 : Int)
    · rw [if_neg (by simp only [h, decide_true, Bool.not_true, Bool.false_eq_true, not_false_eq_true])]; exact h3 h
    · rw [if_pos (by simp only [h, decide_false, Bool.not_false])]; exact h4 h
  · simp only [hlt, decide_false, Bool.false_eq_true, if_false]
    exact eq_end hp hlt
theorem eq (x0 x1 : List Int) (hw : wf x0 x1) : raw x0 x1 = some ((), (laws_eqByteS x0 x1, ())) := by
  have h1 : x0.length ≤ maxLen := hw.1.1
  unfold raw laws_eqByteS
  by_cases hl : (x0.length : Int) = (x1.length : Int)
  · rw [if_neg (by simp [hl]), if_pos (show pre4 _ = true from eq_start h1 hl)]
    unfold fn4
    by_cases he : x0 = x1
    · rw [eqFn_eq he, same_true.2 he]; rfl
    · rw [eqFn_ne he, same_false.2 he]; rfl
  · have : ¬ x0 = x1 := fun h => hl (by rw [h])
    rw [if_pos (by simp [hl]), same_false.2 this]
end laws_eqByteS
def laws_markByteS (xs : List Int) (k : Int) : List Int × Int := (mkL mk_Byte cnt_Byte xs k, k + cntL cnt_Byte xs)
namespace laws_markByteS
def pre (xs : List Int) (k : Int) : Bool := mPre cnt_Byte xs k
def pre2 := mkPre cnt_Byte
def fn2 := mkFn mk_Byte cnt_Byte
def mu2 := mkMu (α := Int)
noncomputable def raw2 (x1 : Int) (x2 : Int) (x3 : (List Int)) : Option ((Int × (Int × ((List Int) × Unit))) ⊕ (Int × ((List Int) × Unit))) :=
 if (decide (x2 < ((List.length x3 : Nat) : Int))) = true then
  if (decide ((0 : Int) ≤ x2)) = true then
   if (decide (x2 < ((List.length x3 : Nat) : Int))) = true then
    some (.inl ((IntKind.wrap .i64 (x1 + (1 : Int))), ((IntKind.wrap .i64 (x2 + (1 : Int))), ((List.modify x3 (Int.toNat x2) (fun z => (IntKind.wrap .u8 x1))), ()))))
   else
    none
  else
   none
 else
  some (.inr (x1, (x3, ())))
abbrev wf (x0 : (List Int)) (x1 : Int) : Prop := wfA [(.mut (.sl 0 (.int .u8))), (.val (.int .i64) .f)] (x0, (x1, ()))
noncomputable def raw (x0 : (List Int)) (x1 : Int) : Option (((List Int) × Unit) × (Int × Unit)) :=
 if (laws_markByteS.pre2 (x1, ((0 : Int), (x0, ())))) = true then
  letB (laws_markByteS.fn2 (x1, ((0 : Int), (x0, ())))) fun v1 =>
  some (v1.2, (v1.1, ()))
 else
  none
theorem ok2 (x1 x2 : Int) (x3 : List Int) (hp : pre2 (x1, (x2, (x3, ()))) = true) : Rounds pre2 mu2 fn2 (x1, (x2, (x3, ()))) (raw2 x1 x2 x3) := by
  unfold raw2
  by_cases hlt : x2 < (x3.length : Int)
  · obtain ⟨h0, hk, hc, hn⟩ := mk_facts mk_Byte_ok hp hlt (0 : Int)
    generalize he : x3.getD x2.toNat (0 : Int) = e at hc
    simp only [cnt_Byte] at hc
    have w0 : IntKind.wrap .i64 (x1 + 1) = x1 + 1 := w64 (by omega) (by omega)
    simp only [letB, List.length_modify, List.modify_modify_eq, getD_modify hn, Function.comp, hlt, h0, he, decide_true, if_true, w0]
    exact mk_step mk_Byte_ok hp hlt (0 : Int) (by rw [he]; simp only [cnt_Byte]) (by rw [he]; rfl)
  · rw [if_neg (by simp [hlt])]; exact mk_end hp hlt
theorem eq (x0 : List Int) (x1 : Int) (_ : wf x0 x1) (hp : pre x0 x1 = true) : raw x0 x1 = some (((laws_markByteS x0 x1).1, ()), ((laws_markByteS x0 x1).2, ())) := by
  unfold raw
  rw [if_pos (show pre2 _ = true from mk_start mk_Byte_ok hp)]
  rfl
end laws_markByteS
theorem markByteS_eq (xs : List Int) (k : Int) : laws_markByteS xs k = (mkL mk_Byte cnt_Byte xs k, k + cntL cnt_Byte xs) := rfl
theorem markByteS_pre {xs : List Int} {k : Int} (h0 : 0 ≤ k) (h1 : k + cntL cnt_Byte xs ≤ 134217728) : laws_markByteS.pre xs k = true := mPre_iff.2 ⟨h0, h1⟩
noncomputable def laws_heldByteS (xs : List Int) (k : Int) : Int := heldN (mkL mk_Byte cnt_Byte) (cntL cnt_Byte) xs k
namespace laws_heldByteS
def pre (xs : List Int) (k : Int) : Bool := mPre cnt_Byte xs k
def pre2 := hePre cnt_Byte
noncomputable def fn2 := heFn mk_Byte cnt_Byte
def mu2 := heMu (α := Int)
noncomputable def raw2 (x1 : (List Int)) (x2 : Int) (x3 : Int) : Option (((List Int) × Mark) ⊕ ((Int × Unit) ⊕ (Int × Unit))) :=
 if (decide (x3 < ((List.length x1 : Nat) : Int))) = true then
  if (decide ((0 : Int) ≤ x3)) = true then
   if (decide (x3 < ((List.length x1 : Nat) : Int))) = true then
    if (!(decide ((List.getD x1 (Int.toNat x3) (0 : Int)) = (IntKind.wrap .u8 x2)))) = true then
     some (.inr (.inl ((-1 : Int), ())))
    else
     some (.inl (x1, ((IntKind.wrap .i64 (x2 + (1 : Int))), ((IntKind.wrap .i64 (x3 + (1 : Int))), ()))))
   else
    none
  else
   none
 else
  some (.inr (.inr (x2, ())))
abbrev wf (x0 : (List Int)) (x1 : Int) : Prop := wfA [(.val (.sl 0 (.int .u8)) .f), (.val (.int .i64) .f)] (x0, (x1, ()))
noncomputable def raw (x0 : (List Int)) (x1 : Int) : Option (Unit × (Int × Unit)) :=
 if (laws_heldByteS.pre2 (x0, (x1, ((0 : Int), ())))) = true then
  letB (laws_heldByteS.fn2 (x0, (x1, ((0 : Int), ())))) fun v1 =>
  match v1 with
  | .inl y =>
   some ((), y)
  | .inr y =>
   some ((), y)
 else
  none
theorem ok2 (x1 : List Int) (x2 x3 : Int) (hp : pre2 (x1, (x2, (x3, ()))) = true) : Rounds pre2 mu2 fn2 (x1, (x2, (x3, ()))) (raw2 x1 x2 x3) := by
  unfold raw2
  by_cases hlt : x3 < (x1.length : Int)
  · obtain ⟨h0, hk, hc⟩ := he_facts mk_Byte_ok hp hlt (0 : Int)
    have bad := he_bad (m := mk_Byte) (g := cnt_Byte) hp hlt (0 : Int)
    have good := fun K hK => he_good mk_Byte_ok (K := K) hp hlt (0 : Int) hK
    generalize x1.getD x3.toNat (0 : Int) = e at *
    simp only [cnt_Byte] at hc
    have w0 : IntKind.wrap .i64 (x2 + 1) = x2 + 1 := w64 (by omega) (by omega)
    simp only [letB, hlt, h0, decide_true, if_true, w0]
    by_cases c : e = IntKind.wrap .u8 x2
    case neg => rw [if_pos (by simp [c])]; exact bad c
    rw [if_neg (by simp [c])]
    exact good _ (by simp only [cnt_Byte]) c
  · rw [if_neg (by simp [hlt])]; exact he_end hp hlt
theorem eq (x0 : List Int) (x1 : Int) (_ : wf x0 x1) (hp : pre x0 x1 = true) : raw x0 x1 = some ((), (laws_heldByteS x0 x1, ())) := by
  unfold raw
  rw [if_pos (show pre2 _ = true from he_start mk_Byte_ok hp)]
  exact heFn_start x0 x1
end laws_heldByteS
theorem heldByteS_pos {xs : List Int} {k : Int} (h : xs = mkL mk_Byte cnt_Byte xs k) : laws_heldByteS xs k = k + cntL cnt_Byte xs := heldN_pos h
theorem heldByteS_pre {xs : List Int} {k : Int} (h0 : 0 ≤ k) (h1 : k + cntL cnt_Byte xs ≤ 134217728) : laws_heldByteS.pre xs k = true := mPre_iff.2 ⟨h0, h1⟩
def mk_Entry (_ : Entry) (k : Int) : Entry := mE k
def cnt_Entry (_ : Entry) : Int := 9
theorem mk_Entry_ok : MkOk mk_Entry cnt_Entry := ⟨fun _ => by simp only [cnt_Entry]; decide, fun _ _ => rfl, fun _ _ => rfl⟩
theorem mkL_Entry : (xs : List Entry) → (k : Int) → mkL mk_Entry cnt_Entry xs k = markEL xs.length k
  | [], _ => rfl
  | a :: r, k => by
    simp only [mkL, List.length_cons, markEL, mkL_Entry r]
    rw [show k + cnt_Entry a = k + 1 + 1 + 1 + 1 + 1 + 1 + 1 + 1 + 1 by simp only [cnt_Entry]; omega]
    rfl
theorem cntL_Entry : (xs : List Entry) → cntL cnt_Entry xs = 9 * xs.length
  | [] => rfl
  | a :: r => by simp only [cntL, cnt_Entry, cntL_Entry r, List.length_cons]; omega
theorem markEntryS_eq (xs : List Entry) (k : Int) : laws_markEntryS xs k = (mkL mk_Entry cnt_Entry xs k, k + cntL cnt_Entry xs) := by
  rw [mkL_Entry, cntL_Entry]; rfl
theorem markEntryS_pre {xs : List Entry} {k : Int} (h0 : 0 ≤ k) (h1 : k + cntL cnt_Entry xs ≤ 134217728) : laws_markEntryS.pre xs k = true := by
  rw [cntL_Entry] at h1
  simp only [laws_markEntryS.pre, Bool.and_eq_true, decide_eq_true_eq, small_iff]; omega
def mkT_Note (x : Note) (k : Int) : Note := (x.1, (x.2.1, (x.2.2.1, (x.2.2.2.1, (mkL mk_Entry cnt_Entry x.2.2.2.2.1 (k), (x.2.2.2.2.2.1, ()))))))
def cntT_Note (x : Note) : Int := cntL cnt_Entry x.2.2.2.2.1
theorem cntT_Note_nn (x : Note) : 0 ≤ cntT_Note x := by
  have n4 := cntL_nn mk_Entry_ok x.2.2.2.2.1
  simp only [cntT_Note]; omega
def laws_markNote (x : Note) (k : Int) : Note × Int := (mkT_Note x k, k + cntT_Note x)
namespace laws_markNote
def pre (x : Note) (k : Int) : Bool := decide (0 ≤ k) && decide (k + cntT_Note x ≤ 134217728)
abbrev wf (x0 : Note) (x1 : Int) : Prop := wfA [(.mut (.pair (.int .i64) (.pair (.int .i64) (.pair (.int .i64) (.pair (.int .i64) (.pair (.sl 0 (.pair (.int .i64) (.pair (.pair (.int .i64) (.pair (.int .i64) (.pair (.int .i64) (.pair (.int .i64) (.pair (.int .i64) (.pair (.int .i64) (.pair .str (.pair .str .unit)))))))) .unit))) (.pair .str .unit))))))), (.val (.int .i64) .f)] (x0, (x1, ()))
noncomputable def raw (x0 : Note) (x1 : Int) : Option ((Note × Unit) × (Int × Unit)) :=
 if (laws_markEntryS.pre x0.2.2.2.2.1 x1) = true then
  letB (laws_markEntryS x0.2.2.2.2.1 x1) fun v1 =>
  some (((x0.1, (x0.2.1, (x0.2.2.1, (x0.2.2.2.1, (v1.1, x0.2.2.2.2.2))))), ()), (v1.2, ()))
 else
  none
theorem eq (x0 : Note) (x1 : Int) (_ : wf x0 x1) (hp : pre x0 x1 = true) : raw x0 x1 = some (((laws_markNote x0 x1).1, ()), ((laws_markNote x0 x1).2, ())) := by
  simp only [pre, Bool.and_eq_true, decide_eq_true_eq] at hp
  simp only [cntT_Note] at hp
  have n4 := cntL_nn mk_Entry_ok x0.2.2.2.2.1
  have q4 : laws_markEntryS.pre x0.2.2.2.2.1 (x1) = true := markEntryS_pre (by omega) (by omega)
  unfold raw
  simp only [letB, if_true, q4, markEntryS_eq]
  refine congrArg some (Prod.ext rfl (Prod.ext ?_ rfl))
  show _ = _
  simp only [laws_markNote, cntT_Note]
end laws_markNote
theorem markNote_eq (x : Note) (k : Int) : laws_markNote x k = (mkT_Note x k, k + cntT_Note x) := rfl
theorem markNote_pre {x : Note} {k : Int} (h0 : 0 ≤ k) (h1 : k + cntT_Note x ≤ 134217728) : laws_markNote.pre x k = true := by simp [laws_markNote.pre, h0, h1]
theorem cntL_Byte : (xs : List Int) → cntL cnt_Byte xs = xs.length
  | [] => rfl
  | a :: r => by simp only [cntL, cnt_Byte, cntL_Byte r, List.length_cons]; omega
theorem szNote_len {x : Note} (hl : x.2.2.2.2.1.length ≤ maxLen) (h : ¬ laws_szNote x 1048576 < 0) : (x.2.2.2.2.1.length : Int) ≤ 1048576 :=
  szEntryS_small hl (by omega) (by omega) (fun h2 => h (by unfold laws_szNote; rw [if_pos h2]; omega) : ¬ laws_szEntryS x.2.2.2.2.1 1048576 < 0)
theorem NoteBytes_len (r : Note) : (NoteBytes r).length ≤ 50000 := by
  unfold NoteBytes
  split
  · rename_i h
    have := body_len (NoteOk_len h)
    have := PutNum_len ((spec_l9Body r).length : Int)
    simp only [List.length_append, sum4, List.length_cons, List.length_nil]; omega
  · simp
def laws_FnExactNoteBytes (_ : Note) : Bool := true
namespace laws_FnExactNoteBytes
abbrev wf (x0 : Note) : Prop := wfA [(.val (.pair (.int .i64) (.pair (.int .i64) (.pair (.int .i64) (.pair (.int .i64) (.pair (.sl 0 (.pair (.int .i64) (.pair (.pair (.int .i64) (.pair (.int .i64) (.pair (.int .i64) (.pair (.int .i64) (.pair (.int .i64) (.pair (.int .i64) (.pair .str (.pair .str .unit)))))))) .unit))) (.pair .str .unit)))))) .f)] (x0, ())
noncomputable def raw (x0 : Note) : Option (Unit × (Bool × Unit)) :=
 letB (laws_szNote x0 (1048576 : Int)) fun v1 =>
 if (decide (v1 < (0 : Int))) = true then
  some ((), (true, ()))
 else
  if (laws_toNote.pre x0) = true then
   if (laws_toNote.pre x0) = true then
    letB (laws_toNote x0) fun v2 =>
    letB (NoteBytes v2) fun v3 =>
    letB (NoteBytes v2) fun v4 =>
    letB (laws_eqByteS v3 v4) fun v5 =>
    if (!v5) = true then
     some ((), (false, ()))
    else
     if (laws_toNote.pre x0) = true then
      letB (laws_eqNote v2 v2) fun v6 =>
      if (!v6) = true then
       some ((), (false, ()))
      else
       if (laws_markNote.pre v2 (1 : Int)) = true then
        letB (laws_markNote v2 (1 : Int)) fun v7 =>
        if (decide (v7.2 < (0 : Int))) = true then
         some ((), (false, ()))
        else
         if (!v5) = true then
          some ((), (false, ()))
         else
          if (laws_markByteS.pre v3 (1 : Int)) = true then
           letB (laws_markByteS v3 (1 : Int)) fun v8 =>
           if (laws_heldByteS.pre v8.1 (1 : Int)) = true then
            letB (laws_heldByteS v8.1 (1 : Int)) fun v9 =>
            if (decide (v9 < (0 : Int))) = true then
             some ((), (false, ()))
            else
             if (!(decide (v9 = v8.2))) = true then
              some ((), (false, ()))
             else
              if (laws_toNote.pre x0) = true then
               letB (NoteBytes v2) fun v10 =>
               letB (laws_eqByteS v10 v4) fun v11 =>
               if (!v11) = true then
                some ((), (false, ()))
               else
                if (laws_heldByteS.pre v8.1 (1 : Int)) = true then
                 if (decide (v9 < (0 : Int))) = true then
                  some ((), (false, ()))
                 else
                  if (!(decide (v9 = v8.2))) = true then
                   some ((), (false, ()))
                  else
                   some ((), (true, ()))
                else
                 none
              else
               none
           else
            none
          else
           none
       else
        none
     else
      none
   else
    none
  else
   none
theorem eq (x0 : Note) (hw : wf x0) : raw x0 = some ((), (laws_FnExactNoteBytes x0, ())) := by
  unfold raw
  simp only [letB]
  by_cases h : laws_szNote x0 1048576 < 0
  · rw [if_pos (decide_eq_true h)]; rfl
  have hl : (x0.2.2.2.2.1.length : Int) ≤ 1048576 := szNote_len hw.1.2.2.2.2.1.1 h
  have p1 : laws_toNote.pre x0 = true := by
    show small _ = true
    rw [small_iff]; omega
  have e1 : laws_toNote x0 = x0 := rfl
  have hc : cntT_Note x0 = 9 * (x0.2.2.2.2.1.length : Int) := by simp only [cntT_Note, cntL_Entry]
  have hc0 := cntT_Note_nn x0
  have p2 : laws_markNote.pre x0 1 = true := markNote_pre (by omega) (by omega)
  have hb := NoteBytes_len x0
  have hcb := cntL_Byte (NoteBytes x0)
  have p3 : laws_markByteS.pre (NoteBytes x0) 1 = true := markByteS_pre (by omega) (by omega)
  have p4 : laws_heldByteS.pre (mkL mk_Byte cnt_Byte (NoteBytes x0) 1) 1 = true := heldByteS_pre (by omega) (by rw [cntL_mkL mk_Byte_ok]; omega)
  have e2 : laws_heldByteS (mkL mk_Byte cnt_Byte (NoteBytes x0) 1) 1 = 1 + cntL cnt_Byte (NoteBytes x0) := by
    rw [heldByteS_pos (mkL_mkL mk_Byte_ok _ _).symm, cntL_mkL mk_Byte_ok]
  have n1 : ¬ 1 + cntT_Note x0 < 0 := by omega
  have n2 : ¬ 1 + cntL cnt_Byte (NoteBytes x0) < 0 := by omega
  rw [if_neg (by rw [decide_eq_true_eq]; exact h)]
  simp only [p1, e1, p2, p3, p4, e2, n1, n2, markNote_eq, markByteS_eq, laws_eqByteS, laws_eqNote, same_self, decide_true, decide_false, Bool.not_true, Bool.not_false, Bool.false_eq_true, if_true, if_false]
  rfl
end laws_FnExactNoteBytes
end Go.Aw.Pl
