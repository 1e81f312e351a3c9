import Derived.Test.YtpcdhadfpeojkaaAxM
namespace Go.Aw.Pl
open Go Go.Aw
set_option linter.unusedVariables false
set_option linter.unusedSimpArgs false
set_option maxHeartbeats 1000000
abbrev Mark := (Int × (Int × Unit))
abbrev Setup := (Int × (Int × Mark))
abbrev Disk := ((List Int) × (Int × Unit))
abbrev Item := (Int × ((List UInt8) × ((List UInt8) × Mark)))
abbrev Row := (Int × (Int × ((List Item) × Unit)))
abbrev Maker := (Int × (Int × (Int × (Int × ((List Mark) × Unit)))))
abbrev Answer := (Int × (Int × ((List UInt8) × ((List UInt8) × Unit))))
abbrev Cmd := (Int × (Int × (Int × (Int × Answer))))
abbrev Entry := (Int × (Cmd × Unit))
abbrev Group := (Int × ((List Int) × ((List Int) × ((List Int) × Unit))))
abbrev Note := (Int × (Int × (Int × (Int × ((List Entry) × ((List UInt8) × Unit))))))
abbrev Keep := ((List Row) × ((List Maker) × ((List Group) × (Int × ((List Int) × ((List Answer) × Unit))))))
abbrev zt1 : Type := ((List Row) × ((List Maker) × ((List Group) × (Int × ((List Int) × ((List Answer) × Unit))))))
abbrev zd4 := ((0 : Int), ((0 : Int), ((0 : Int), ((0 : Int), (([] : List Mark), ())))))
abbrev zt5 : Type := (Unit × ((List Row) × ((List Maker) × ((List Group) × ((List Int) × ((List Answer) × (Int × (Unit × ((List Row) × ((List Maker) × ((List Group) × ((List Int) × ((List Answer) × Unit)))))))))))))
abbrev zd6 := ((0 : Int), (([] : List UInt8), (([] : List UInt8), ())))
abbrev zd7 := ((0 : Int), (([] : List Int), (([] : List Int), (([] : List Int), ()))))
abbrev zk8 : Ty := (.pair (.int .i64) (.pair (.int .i64) (.pair (.int .i64) (.pair (.int .i64) (.pair (.int .i64) (.pair (.int .i64) (.pair .str (.pair .str .unit))))))))
abbrev zd9 := ((0 : Int), ((0 : Int), (([] : List Item), ())))
abbrev zk10 : Ty := (.pair (.int .i64) (.pair (.int .i64) .unit))
abbrev zt11 : Type := ((List Int) × Mark)
abbrev zt13 : Type := (Int × (Int × (Unit × ((List Item) × (Int × (Int × (Unit × ((List Item) × Unit))))))))
abbrev zk14 : Ty := (.pair (.int .i64) (.pair (.sl 0 (.int .i64)) (.pair (.sl 0 (.int .i64)) (.pair (.sl 0 (.int .i64)) .unit))))
abbrev zt15 : Type := (Int × (Unit × ((List Row) × ((List Maker) × ((List Group) × ((List Int) × ((List Answer) × ((List Answer) × (Int × (Unit × ((List Row) × ((List Maker) × ((List Group) × ((List Int) × ((List Answer) × Unit)))))))))))))))
abbrev zt16 : Type := (Int × (Unit × ((List Row) × ((List Maker) × ((List Group) × ((List Int) × ((List Answer) × (Int × (Unit × ((List Row) × ((List Maker) × ((List Group) × ((List Int) × ((List Answer) × (Answer × Unit)))))))))))))))
abbrev zt17 : Type := ((List Int) × Unit)
abbrev zt12 : Type := (Group × (Int × (Unit × ((List Int) × ((List Int) × ((List Int) × (Int × (Unit × ((List Int) × ((List Int) × zt17))))))))))
abbrev zt18 : Type := (Int × (Int × (Int × (Int × ((List Entry) × ((List UInt8) × Unit))))))
abbrev zk19 : Ty := (.pair (.int .i64) (.pair (.int .i64) (.pair (.sl 0 (.pair (.int .i64) (.pair .str (.pair .str zk10)))) .unit)))
abbrev zk20 : Ty := (.sl 0 (.int .u8))
abbrev zk21 : Ty := (.pair (.int .i64) (.pair (.int .i64) (.pair (.int .i64) (.pair (.int .i64) (.pair (.sl 0 zk10) .unit)))))
abbrev zk3 : Ty := (.pair (.sl 0 zk19) (.pair (.sl 0 zk21) (.pair (.sl 0 zk14) (.pair (.int .i64) (.pair (.sl 0 (.int .i64)) (.pair (.sl 0 (.pair (.int .i64) (.pair (.int .i64) (.pair .str (.pair .str .unit))))) .unit))))))
abbrev zd22 := ((0 : Int), ((0 : Int), ((0 : Int), ((0 : Int), zd6))))
abbrev zd23 := ((0 : Int), ((0 : Int), ()))
abbrev zd2 := ((0 : Int), (([] : List UInt8), (([] : List UInt8), zd23)))
abbrev zt24 : Type := (Int × (Int × (Int × (Int × (Unit × ((List Mark) × Unit))))))
abbrev zk25 : Ty := (.pair zk20 (.pair (.int .i64) .unit))
abbrev zk26 : Ty := (.pair (.int .i64) (.pair (.int .i64) (.pair (.int .i64) (.pair (.int .i64) (.pair (.sl 0 (.pair (.int .i64) (.pair zk8 .unit))) (.pair .str .unit))))))
abbrev zk27 : Ty := (.pair (.int .i64) (.pair (.int .i64) zk10))
abbrev zt28 : Type := (Unit × (Bool × Unit))
abbrev zt29 : Type := (Int × (zt1 × zt17))
abbrev zt30 : Type := (Int × (Int × (Row × zt13)))
abbrev zk31 : Ty := (.pair zk20 zk10)
abbrev zd32 := ((0 : Int), ((0 : Int), ((0 : Int), ((0 : Int), ((0 : Int), ((), (([] : List Mark), ())))))))
theorem w64 {n : Int} (h1 : -9223372036854775808 ≤ n) (h2 : n ≤ 9223372036854775807) : IntKind.wrap .i64 n = n := by
 simp [IntKind.wrap, IntKind.signed, IntKind.bits]; omega
theorem w8 {n : Int} (h1 : 0 ≤ n) (h2 : n ≤ 255) : IntKind.wrap .u8 n = n := by
 simp [IntKind.wrap, IntKind.signed, IntKind.bits]; omega
theorem in64 {n : Int} : inK .i64 n ↔ -9223372036854775808 ≤ n ∧ n ≤ 9223372036854775807 := by
 unfold inK; rw [i64_min, i64_max]
theorem maxLen_eq : maxLen = 9223372036854775807 := rfl
def small {α : Type} (xs : List α) : Bool := decide (xs.length ≤ 16777216)
theorem small_iff {α : Type} {xs : List α} : small xs = true ↔ xs.length ≤ 16777216 := by simp [small]
theorem getD_get {α : Type} {xs : List α} {i : Nat} {d : α} (h : i < xs.length) : xs.getD i d = xs[i] := by
 rw [List.getD_eq_getElem?_getD, List.getElem?_eq_getElem h]; rfl
def letB {α β : Type} (a : α) (f : α → β) : β := f a
open Classical in
noncomputable def same {α : Type} (a b : α) : Bool := decide (a = b)
theorem same_true {α : Type} {a b : α} : same a b = true ↔ a = b := by simp [same]
theorem same_self {α : Type} (a : α) : same a a = true := same_true.2 rfl
theorem modify_const {α : Type} (l : List α) (i : Nat) (v : α) : l.modify i (fun _ => v) = l.set i v := by
 apply List.ext_getElem?
 intro j
 rw [List.getElem?_modify, List.getElem?_set]
 by_cases h : i = j
 · subst h
   rcases Nat.lt_or_ge i l.length with hl | hl
   · simp [hl]
   · simp [List.getElem?_eq_none hl, Nat.not_lt.2 hl]
 · simp [h]
def impl_within (n lo hi : Int) : Bool := decide (lo ≤ n) && decide (n ≤ hi)
namespace impl_within
abbrev wf (x0 : Int) (x1 : Int) (x2 : Int) : Prop := wfA [(.val (.int .i64) .f), (.val (.int .i64) .f), (.val (.int .i64) .f)] (x0, (x1, (x2, ())))
noncomputable def raw (x0 : Int) (x1 : Int) (x2 : Int) : Option zt28 :=
 if (decide (x1 ≤ x0)) = true then
 some ((), ((decide (x0 ≤ x2)), ()))
 else
 some ((), (false, ()))
theorem eq (x0 x1 x2 : Int) (_ : wf x0 x1 x2) : raw x0 x1 x2 = some ((), (impl_within x0 x1 x2, ())) := by
 unfold raw impl_within
 by_cases h : x1 ≤ x0 <;> simp [h]
end impl_within
abbrev spec_l1In := impl_within
namespace spec_l1In
abbrev wf (x0 : Int) (x1 : Int) (x2 : Int) : Prop := wfA [(.val (.int .i64) .f), (.val (.int .i64) .f), (.val (.int .i64) .f)] (x0, (x1, (x2, ())))
noncomputable def raw (x0 : Int) (x1 : Int) (x2 : Int) : Option zt28 :=
 if (decide (x1 ≤ x0)) = true then
 some ((), ((decide (x0 ≤ x2)), ()))
 else
 some ((), (false, ()))
theorem eq (x0 x1 x2 : Int) (_ : wf x0 x1 x2) : raw x0 x1 x2 = some ((), (spec_l1In x0 x1 x2, ())) := by
 unfold raw spec_l1In impl_within
 by_cases h : x1 ≤ x0 <;> simp [h]
end spec_l1In
def chOk (c : UInt8) : Bool := (decide (97 ≤ c.toNat) && decide (c.toNat ≤ 122)) || (decide (48 ≤ c.toNat) && decide (c.toNat ≤ 57)) || decide (c.toNat = 32)
def wordsOk (s : List UInt8) : Bool := s.all chOk && decide (s.length ≤ 30)
abbrev TxS := List UInt8 × (Int × Unit)
def txPre : TxS → Bool := fun s => decide (s.1.length ≤ maxLen) && decide (0 ≤ s.2.1) && decide (s.2.1.toNat ≤ s.1.length)
def txFn : TxS → (Bool × Unit) ⊕ (List UInt8 × Unit) := fun s => if (s.1.drop s.2.1.toNat).all chOk = true then .inr (s.1, ()) else .inl (false, ())
def txMu : TxS → Nat := fun s => s.1.length - s.2.1.toNat
theorem tx_next {x1 : List UInt8} {x2 : Int} (hp : txPre (x1, (x2, ())) = true) (hlt : x2 < (x1.length : Int)) :
 0 ≤ x2 ∧ (chOk (x1.getD x2.toNat 0) = true → Rounds txPre txMu txFn (x1, (x2, ())) (some (.inl (x1, (IntKind.wrap .i64 (x2 + 1), ()))))) ∧
  (chOk (x1.getD x2.toNat 0) = false → Rounds txPre txMu txFn (x1, (x2, ())) (some (.inr (.inl (false, ()))))) := by
 simp only [txPre, Bool.and_eq_true, decide_eq_true_eq] at hp
 obtain ⟨⟨h1, h2⟩, h3⟩ := hp
 have hM := maxLen_eq
 have hn : x2.toNat < x1.length := by omega
 have e1 := List.drop_eq_getElem_cons hn
 rw [getD_get hn]
 refine ⟨h2, fun he => ?_, fun he => ?_⟩
 · simp only [Rounds, w64 (n := x2 + 1) (by omega) (by omega)]
   refine ⟨?_, by simp only [txMu]; omega, ?_⟩
   · simp only [txPre, Bool.and_eq_true, decide_eq_true_eq]
     exact ⟨⟨h1, by omega⟩, by omega⟩
   · simp only [txFn, show (x2 + 1).toNat = x2.toNat + 1 by omega, e1, List.all_cons, he, Bool.true_and]
 · simp only [Rounds, txFn, e1, List.all_cons, he, Bool.false_and, Bool.false_eq_true, if_false]
theorem tx_end {x1 : List UInt8} {x2 : Int} (hp : txPre (x1, (x2, ())) = true) (hlt : ¬ x2 < (x1.length : Int)) :
 Rounds txPre txMu txFn (x1, (x2, ())) (some (.inr (.inr (x1, ())))) := by
 simp only [txPre, Bool.and_eq_true, decide_eq_true_eq] at hp
 obtain ⟨⟨h1, h2⟩, h3⟩ := hp
 simp only [Rounds, txFn]
 rw [List.drop_eq_nil_of_le (by omega)]
 rfl
theorem tx_eq {x0 : List UInt8} (h : x0.length ≤ maxLen) : txPre (x0, ((0 : Int), ())) = true := by simp [txPre, h]
abbrev spec_l2Text := wordsOk
namespace spec_l2Text
def pre2 := txPre
def fn2 := txFn
def mu2 := txMu
noncomputable def raw2 (x1 : (List UInt8)) (x2 : Int) : Option (((List UInt8) × (Int × Unit)) ⊕ ((Bool × Unit) ⊕ ((List UInt8) × Unit))) :=
 if (decide (x2 < ((List.length x1 : Nat) : Int))) = true then
 if (decide ((0 : Int) ≤ x2)) = true then
 if (decide (x2 < ((List.length x1 : Nat) : Int))) = true then
 if (decide ((97 : Int) ≤ ((UInt8.toNat (List.getD x1 (Int.toNat x2) 0) : Nat) : Int))) = true then
 if (decide (((UInt8.toNat (List.getD x1 (Int.toNat x2) 0) : Nat) : Int) ≤ (122 : Int))) = true then
 if (!true) = true then
 some (.inr (.inl (false, ())))
 else
 some (.inl (x1, ((IntKind.wrap .i64 (x2 + (1 : Int))), ())))
 else
 if (decide ((48 : Int) ≤ ((UInt8.toNat (List.getD x1 (Int.toNat x2) 0) : Nat) : Int))) = true then
 if (decide (((UInt8.toNat (List.getD x1 (Int.toNat x2) 0) : Nat) : Int) ≤ (57 : Int))) = true then
 if (!true) = true then
 some (.inr (.inl (false, ())))
 else
 some (.inl (x1, ((IntKind.wrap .i64 (x2 + (1 : Int))), ())))
 else
 if (!(decide (((UInt8.toNat (List.getD x1 (Int.toNat x2) 0) : Nat) : Int) = (32 : Int)))) = true then
 some (.inr (.inl (false, ())))
 else
 some (.inl (x1, ((IntKind.wrap .i64 (x2 + (1 : Int))), ())))
 else
 if (!(decide (((UInt8.toNat (List.getD x1 (Int.toNat x2) 0) : Nat) : Int) = (32 : Int)))) = true then
 some (.inr (.inl (false, ())))
 else
 some (.inl (x1, ((IntKind.wrap .i64 (x2 + (1 : Int))), ())))
 else
 if (decide ((48 : Int) ≤ ((UInt8.toNat (List.getD x1 (Int.toNat x2) 0) : Nat) : Int))) = true then
 if (decide (((UInt8.toNat (List.getD x1 (Int.toNat x2) 0) : Nat) : Int) ≤ (57 : Int))) = true then
 if (!true) = true then
 some (.inr (.inl (false, ())))
 else
 some (.inl (x1, ((IntKind.wrap .i64 (x2 + (1 : Int))), ())))
 else
 if (!(decide (((UInt8.toNat (List.getD x1 (Int.toNat x2) 0) : Nat) : Int) = (32 : Int)))) = true then
 some (.inr (.inl (false, ())))
 else
 some (.inl (x1, ((IntKind.wrap .i64 (x2 + (1 : Int))), ())))
 else
 if (!(decide (((UInt8.toNat (List.getD x1 (Int.toNat x2) 0) : Nat) : Int) = (32 : Int)))) = true then
 some (.inr (.inl (false, ())))
 else
 some (.inl (x1, ((IntKind.wrap .i64 (x2 + (1 : Int))), ())))
 else
 none
 else
 none
 else
 some (.inr (.inr (x1, ())))
abbrev wf (x0 : (List UInt8)) : Prop := wfA [(.val .str .f)] (x0, ())
noncomputable def raw (x0 : (List UInt8)) : Option zt28 :=
 if (spec_l2Text.pre2 (x0, ((0 : Int), ()))) = true then
  match (spec_l2Text.fn2 (x0, ((0 : Int), ()))) with
  | .inl y =>
   some ((), y)
  | .inr y =>
   some ((), ((decide (((List.length y.1 : Nat) : Int) ≤ (30 : Int))), ()))
 else
  none
theorem ok2 (x1 : List UInt8) (x2 : Int) (hp : pre2 (x1, (x2, ())) = true) : Rounds pre2 mu2 fn2 (x1, (x2, ())) (raw2 x1 x2) := by
 unfold raw2
 by_cases hlt : x2 < (x1.length : Int)
 · obtain ⟨h1, h2, h3⟩ := tx_next hp hlt
   simp only [hlt, h1, decide_true, if_true, decide_eq_true_eq, Bool.not_eq_true', decide_eq_false_iff_not, Bool.not_true, Bool.false_eq_true, if_false]
   generalize hc : (x1.getD x2.toNat 0) = c at *
   have hk : chOk c = true ∨ chOk c = false := by cases chOk c <;> simp
   unfold chOk at hk h2 h3
   simp only [Bool.or_eq_true, Bool.and_eq_true, decide_eq_true_eq, Bool.or_eq_false_iff, Bool.and_eq_false_iff, decide_eq_false_iff_not] at hk h2 h3
   repeat' split
   all_goals first | (exact h2 (by omega)) | (exact h3 (by omega))
 · simp only [hlt, decide_false, Bool.false_eq_true, if_false]
   exact tx_end hp hlt
theorem eq (x0 : List UInt8) (hw : wf x0) : raw x0 = some ((), (spec_l2Text x0, ())) := by
 have h1 : x0.length ≤ maxLen := hw.1
 unfold raw spec_l2Text wordsOk
 rw [if_pos (show pre2 _ = true from tx_eq h1)]
 simp only [fn2, txFn, Int.toNat_zero, List.drop_zero]
 by_cases h : x0.all chOk = true
 · rw [if_pos h, h]
   by_cases hl : x0.length ≤ 30
   · simp [hl]; omega
   · simp [hl]; omega
 · rw [if_neg h]; simp [h]
end spec_l2Text
def CmdOk (c : Cmd) : Bool :=
 if c.1 = -1 then decide (c.1 = -1) && (decide (c.2.1 = 0) && (decide (c.2.2.1 = 0) && (decide (c.2.2.2.1 = 0) && (decide (c.2.2.2.2.1 = 0) && (decide (c.2.2.2.2.2.1 = 0) && (c.2.2.2.2.2.2.1 == [] && c.2.2.2.2.2.2.2.1 == []))))))
 else impl_within c.1 0 3 && (impl_within c.2.1 1 100000 && (impl_within c.2.2.1 1 10 && (impl_within c.2.2.2.1 0 100000 && (impl_within c.2.2.2.2.1 0 100000 && (impl_within c.2.2.2.2.2.1 0 100000 && (wordsOk c.2.2.2.2.2.2.1 && wordsOk c.2.2.2.2.2.2.2.1))))))
abbrev spec_CmdOk := CmdOk
namespace spec_CmdOk
abbrev wf (x0 : Cmd) : Prop := wfA [(.val zk8 .f)] (x0, ())
noncomputable def raw (x0 : Cmd) : Option zt28 :=
 if (decide (x0.1 = (-1 : Int))) = true then
 some ((), (((decide (x0.1 = (-1 : Int))) && ((decide (x0.2.1 = (0 : Int))) && ((decide (x0.2.2.1 = (0 : Int))) && ((decide (x0.2.2.2.1 = (0 : Int))) && ((decide (x0.2.2.2.2.1 = (0 : Int))) && ((decide (x0.2.2.2.2.2.1 = (0 : Int))) && ((x0.2.2.2.2.2.2.1 == ([] : List UInt8)) && (x0.2.2.2.2.2.2.2.1 == ([] : List UInt8))))))))), ()))
 else
 if (impl_within x0.1 (0 : Int) (3 : Int)) = true then
 if (impl_within x0.2.1 (1 : Int) (100000 : Int)) = true then
 if (impl_within x0.2.2.1 (1 : Int) (10 : Int)) = true then
 if (impl_within x0.2.2.2.1 (0 : Int) (100000 : Int)) = true then
 if (impl_within x0.2.2.2.2.1 (0 : Int) (100000 : Int)) = true then
 if (impl_within x0.2.2.2.2.2.1 (0 : Int) (100000 : Int)) = true then
 if (wordsOk x0.2.2.2.2.2.2.1) = true then
 some ((), ((wordsOk x0.2.2.2.2.2.2.2.1), ()))
 else
 some ((), (false, ()))
 else
 some ((), (false, ()))
 else
 some ((), (false, ()))
 else
 some ((), (false, ()))
 else
 some ((), (false, ()))
 else
 some ((), (false, ()))
 else
 some ((), (false, ()))
theorem eq (x0 : Cmd) (_ : wf x0) : raw x0 = some ((), (spec_CmdOk x0, ())) := by
 unfold raw spec_CmdOk CmdOk
 simp only [decide_eq_true_eq]
 split
 · rfl
 · cases impl_within x0.1 0 3 <;> simp only [Bool.false_eq_true, if_false, if_true, Bool.false_and, Bool.true_and]
   cases impl_within x0.2.1 1 100000 <;> simp only [Bool.false_eq_true, if_false, if_true, Bool.false_and, Bool.true_and]
   cases impl_within x0.2.2.1 1 10 <;> simp only [Bool.false_eq_true, if_false, if_true, Bool.false_and, Bool.true_and]
   cases impl_within x0.2.2.2.1 0 100000 <;> simp only [Bool.false_eq_true, if_false, if_true, Bool.false_and, Bool.true_and]
   cases impl_within x0.2.2.2.2.1 0 100000 <;> simp only [Bool.false_eq_true, if_false, if_true, Bool.false_and, Bool.true_and]
   cases impl_within x0.2.2.2.2.2.1 0 100000 <;> simp only [Bool.false_eq_true, if_false, if_true, Bool.false_and, Bool.true_and]
   cases wordsOk x0.2.2.2.2.2.2.1 <;> simp only [Bool.false_eq_true, if_false, if_true, Bool.false_and, Bool.true_and]
end spec_CmdOk
def eOk (t : Int) (e : Entry) : Bool := impl_within e.1 0 t && CmdOk e.2.1
def spec_l9List (xs : List Entry) (t : Int) : Bool := xs.all (eOk t) && decide (xs.length ≤ 40)
namespace spec_l9List
abbrev S := List Entry × (Int × (Int × Unit))
def pre2 : S → Bool := fun s => decide (s.1.length ≤ maxLen) && (decide (0 ≤ s.2.2.1) && decide (s.2.2.1.toNat ≤ s.1.length))
def fn2 : S → (Bool × Unit) ⊕ (List Entry × Unit) := fun s => if (s.1.drop s.2.2.1.toNat).all (eOk s.2.1) = true then .inr (s.1, ()) else .inl (false, ())
def mu2 : S → Nat := fun s => s.1.length - s.2.2.1.toNat
noncomputable def raw2 (x1 : (List Entry)) (x2 : Int) (x3 : Int) : Option (((List Entry) × Mark) ⊕ ((Bool × Unit) ⊕ ((List Entry) × Unit))) :=
 if (decide (x3 < ((List.length x1 : Nat) : Int))) = true then
 if (decide ((0 : Int) ≤ x3)) = true then
 if (decide (x3 < ((List.length x1 : Nat) : Int))) = true then
 if (!(impl_within (List.getD x1 (Int.toNat x3) ((0 : Int), (((0 : Int), zd22), ()))).1 (0 : Int) x2)) = true then
 some (.inr (.inl (false, ())))
 else
 if (decide ((0 : Int) ≤ x3)) = true then
 if (decide (x3 < ((List.length x1 : Nat) : Int))) = true then
 if (!(CmdOk (List.getD x1 (Int.toNat x3) ((0 : Int), (((0 : Int), zd22), ()))).2.1)) = true then
 some (.inr (.inl (false, ())))
 else
 some (.inl (x1, (x2, ((IntKind.wrap .i64 (x3 + (1 : Int))), ()))))
 else
 none
 else
 none
 else
 none
 else
 none
 else
 some (.inr (.inr (x1, ())))
abbrev wf (x0 : (List Entry)) (x1 : Int) : Prop := wfA [(.val (.sl 0 (.pair (.int .i64) (.pair zk8 .unit))) .f), (.val (.int .i64) .f)] (x0, (x1, ()))
noncomputable def raw (x0 : (List Entry)) (x1 : Int) : Option zt28 :=
 if (spec_l9List.pre2 (x0, (x1, ((0 : Int), ())))) = true then
  match (spec_l9List.fn2 (x0, (x1, ((0 : Int), ())))) with
  | .inl y =>
   some ((), y)
  | .inr y =>
   some ((), ((decide (((List.length y.1 : Nat) : Int) ≤ (40 : Int))), ()))
 else
  none
theorem ok2 (x1 : List Entry) (x2 x3 : Int) (hp : pre2 (x1, (x2, (x3, ()))) = true) : Rounds pre2 mu2 fn2 (x1, (x2, (x3, ()))) (raw2 x1 x2 x3) := by
 simp only [pre2, Bool.and_eq_true, decide_eq_true_eq] at hp
 obtain ⟨h1, h2, h3⟩ := hp
 have hM := maxLen_eq
 unfold raw2
 by_cases hlt : x3 < (x1.length : Int)
 · have hn : x3.toNat < x1.length := by omega
   have e1 := List.drop_eq_getElem_cons hn
   simp only [hlt, h2, decide_true, if_true, getD_get hn]
   cases ha : impl_within (x1[x3.toNat]).1 0 x2 with
   | false => simp only [Rounds, fn2, e1, List.all_cons, eOk, ha, Bool.false_and, Bool.not_false, Bool.false_eq_true, if_true, if_false]
   | true =>
    cases hb : CmdOk (x1[x3.toNat]).2.1 with
    | false => simp only [Rounds, fn2, e1, List.all_cons, eOk, ha, hb, Bool.true_and, Bool.false_and, Bool.not_false, Bool.not_true, Bool.false_eq_true, if_true, if_false]
    | true =>
     simp only [Bool.not_true, Bool.false_eq_true, if_false, Rounds, w64 (n := x3 + 1) (by omega) (by omega)]
     refine ⟨?_, by simp only [mu2]; omega, ?_⟩
     · simp only [pre2, Bool.and_eq_true, decide_eq_true_eq]
       exact ⟨h1, by omega, by omega⟩
     · simp only [fn2, show (x3 + 1).toNat = x3.toNat + 1 by omega, e1, List.all_cons]
       rw [show eOk x2 x1[x3.toNat] = true by simp [eOk, ha, hb], Bool.true_and]
 · simp only [hlt, decide_false, Bool.false_eq_true, if_false, Rounds, fn2]
   rw [List.drop_eq_nil_of_le (by omega)]
   rfl
theorem eq (x0 : List Entry) (x1 : Int) (hw : wf x0 x1) : raw x0 x1 = some ((), (spec_l9List x0 x1, ())) := by
 have h1 : x0.length ≤ maxLen := hw.1.1
 unfold raw spec_l9List
 rw [if_pos (show pre2 _ = true by simp [pre2, h1])]
 by_cases ha : x0.all (eOk x1) = true
 · have hf : fn2 (x0, (x1, ((0 : Int), ()))) = .inr (x0, ()) := if_pos ha
   rw [hf, ha]
   by_cases hl : x0.length ≤ 40
   · simp [hl]; omega
   · simp [hl]; omega
 · have hf : fn2 (x0, (x1, ((0 : Int), ()))) = .inl (false, ()) := if_neg ha
   rw [hf]
   simp only [Bool.not_eq_true] at ha
   simp [ha]
end spec_l9List
def kindOk (r : Note) : Bool :=
 if r.1 = 1 then impl_within r.2.2.1 (-1) 4 && (decide (r.2.2.2.1 = 0) && (decide ((r.2.2.2.2.1.length : Int) = 0) && r.2.2.2.2.2.1 == []))
 else if r.1 = 2 then decide (r.2.2.1 = 0) && r.2.2.2.2.2.1 == []
 else if r.1 = 3 then decide (r.2.2.1 = 0) && decide ((r.2.2.2.2.1.length : Int) = 0)
 else false
def NoteOk (r : Note) : Bool := impl_within r.2.1 0 300 && (impl_within r.2.2.2.1 0 300 && (spec_l9List r.2.2.2.2.1 300 && (decide ((r.2.2.2.2.2.1.length : Int) ≤ 30000) && kindOk r)))
abbrev spec_NoteOk := NoteOk
namespace spec_NoteOk
abbrev wf (x0 : zt18) : Prop := wfA [(.val zk26 .f)] (x0, ())
noncomputable def raw (x0 : zt18) : Option zt28 :=
 if (!(impl_within x0.2.1 (0 : Int) (300 : Int))) = true then
 some ((), (false, ()))
 else
 if (!(impl_within x0.2.2.2.1 (0 : Int) (300 : Int))) = true then
 some ((), (false, ()))
 else
 if (!(spec_l9List x0.2.2.2.2.1 (300 : Int))) = true then
 some ((), (false, ()))
 else
 if (decide ((30000 : Int) < ((List.length x0.2.2.2.2.2.1 : Nat) : Int))) = true then
 some ((), (false, ()))
 else
 if (decide (x0.1 = (1 : Int))) = true then
 if (impl_within x0.2.2.1 (-1 : Int) (4 : Int)) = true then
 if (decide (x0.2.2.2.1 = (0 : Int))) = true then
 if (decide (((List.length x0.2.2.2.2.1 : Nat) : Int) = (0 : Int))) = true then
 some ((), ((x0.2.2.2.2.2.1 == ([] : List UInt8)), ()))
 else
 some ((), (false, ()))
 else
 some ((), (false, ()))
 else
 some ((), (false, ()))
 else
 if (decide (x0.1 = (2 : Int))) = true then
 if (decide (x0.2.2.1 = (0 : Int))) = true then
 some ((), ((x0.2.2.2.2.2.1 == ([] : List UInt8)), ()))
 else
 some ((), (false, ()))
 else
 if (decide (x0.1 = (3 : Int))) = true then
 if (decide (x0.2.2.1 = (0 : Int))) = true then
 some ((), ((decide (((List.length x0.2.2.2.2.1 : Nat) : Int) = (0 : Int))), ()))
 else
 some ((), (false, ()))
 else
 some ((), (false, ()))
theorem eq (x0 : Note) (_ : wf x0) : raw x0 = some ((), (spec_NoteOk x0, ())) := by
 unfold raw spec_NoteOk NoteOk kindOk
 cases impl_within x0.2.1 0 300
 · simp
 cases impl_within x0.2.2.2.1 0 300
 · simp
 cases spec_l9List x0.2.2.2.2.1 300
 · simp
 by_cases hs : (x0.2.2.2.2.2.1.length : Int) ≤ 30000
 case neg =>
  have hs' : (30000 : Int) < (x0.2.2.2.2.2.1.length : Int) := by omega
  simp [hs, hs']
 have hs' : ¬ (30000 : Int) < (x0.2.2.2.2.2.1.length : Int) := by omega
 simp only [hs, hs', decide_true, decide_false, Bool.not_true, Bool.false_eq_true, if_false, Bool.true_and, decide_eq_true_eq]
 split
 · cases impl_within x0.2.2.1 (-1) 4 <;> simp only [Bool.false_eq_true, if_false, if_true, Bool.false_and, Bool.true_and]
   split
   · rename_i h; simp only [h, decide_true, Bool.true_and]
     split
     · rename_i h; simp only [h, decide_true, Bool.true_and]
     · rename_i h; simp only [h, decide_false, Bool.false_and]
   · rename_i h; simp only [h, decide_false, Bool.false_and]
 split
 · split
   · rename_i h; simp only [h, decide_true, Bool.true_and]
   · rename_i h; simp only [h, decide_false, Bool.false_and]
 split
 · split
   · rename_i h; simp only [h, decide_true, Bool.true_and]
   · rename_i h; simp only [h, decide_false, Bool.false_and]
 · rfl
end spec_NoteOk
theorem within_hi {n lo hi : Int} (h : impl_within n lo hi = true) : lo ≤ n ∧ n ≤ hi := by
 simpa [impl_within] using h
def SetupOk (x : Setup) : Bool := impl_within x.1 1 4 && (impl_within x.2.1 1 5 && (impl_within x.2.2.1 1 8 && impl_within x.2.2.2.1 0 60))
abbrev spec_SetupOk := SetupOk
namespace spec_SetupOk
abbrev wf (x0 : Setup) : Prop := wfA [(.val zk27 .f)] (x0, ())
noncomputable def raw (x0 : Setup) : Option zt28 :=
 if (impl_within x0.1 (1 : Int) (4 : Int)) = true then
 if (impl_within x0.2.1 (1 : Int) (5 : Int)) = true then
 if (impl_within x0.2.2.1 (1 : Int) (8 : Int)) = true then
 some ((), ((impl_within x0.2.2.2.1 (0 : Int) (60 : Int)), ()))
 else
 some ((), (false, ()))
 else
 some ((), (false, ()))
 else
 some ((), (false, ()))
theorem eq (x0 : Setup) (_ : wf x0) : raw x0 = some ((), (spec_SetupOk x0, ())) := by
 unfold raw spec_SetupOk SetupOk
 cases impl_within x0.1 1 4 <;> cases impl_within x0.2.1 1 5 <;> cases impl_within x0.2.2.1 1 8 <;> simp
end spec_SetupOk
def GroupNew (n : Int) : Group := if impl_within n 1 4 = true then (0, ([], ([], (List.replicate n.toNat 0, ())))) else (0, ([], ([], ([], ()))))
abbrev spec_GroupNew := GroupNew
namespace spec_GroupNew
def pre (_ : Int) : Bool := true
abbrev wf (x0 : Int) : Prop := wfA [(.val (.int .i64) .f)] (x0, ())
noncomputable def raw (x0 : Int) : Option (Unit × (Group × Unit)) :=
 letB (impl_within x0 (1 : Int) (4 : Int)) fun v1 =>
 if (!v1) = true then
 some ((), (zd7, ()))
 else
 if (decide ((0 : Int) ≤ x0)) = true then
 if (decide (x0 ≤ x0)) = true then
 if (decide (x0 ≤ (4294967296 : Int))) = true then
 some ((), (((0 : Int), (([] : List Int), (([] : List Int), ((List.replicate (Int.toNat x0) (0 : Int)), ())))), ()))
 else
 none
 else
 none
 else
 none
theorem eq (x0 : Int) (_ : wf x0) (_ : pre x0 = true) : raw x0 = some ((), (spec_GroupNew x0, ())) := by
 unfold raw spec_GroupNew GroupNew
 simp only [letB]
 by_cases h : impl_within x0 1 4 = true
 · have := within_hi h
   rw [if_neg (by simp [h]), if_pos (by simp only [decide_eq_true_eq]; omega), if_pos (by simp), if_pos (by simp only [decide_eq_true_eq]; omega), if_pos h]
 · rw [if_pos (by simp [h]), if_neg h]
end spec_GroupNew
def zKeep : Keep := ([], ([], ([], (0, ([], ([], ()))))))
def newKeep (n : Int) : Keep := (List.replicate n.toNat (0, (0, ([], ()))), ([], (List.replicate 2 (GroupNew n), (0, (List.replicate 4 0, (List.replicate 4 (0, (0, ([], ([], ())))), ()))))))
def KeepNew (x : Setup) : Keep := if SetupOk x = true then newKeep x.1 else zKeep
abbrev spec_KeepNew := KeepNew
abbrev KnT := Int × zt5
abbrev KnS := Int × (Setup × KnT)
def knPre : KnS → Bool := fun s => decide (0 ≤ s.1) && decide (s.2.2.2.2.2.2.2.2.2.2.2.2.2.1.length ≤ s.1.toNat)
def knFn : KnS → KnT := fun (i, x, x3, x4, x5, x6, x7, x8, x9, x10, x11, x12, x13, x14, x15, x16, _) =>
 (x3, (x4, (x5, (x6, (x7, (x8, (x9, (x10, (x11, (x12, (x13, (x14 ++ List.replicate (2 - i).toNat (GroupNew x.1), (x15, (x16, ()))))))))))))))
def knMu : KnS → Nat := fun s => (2 - s.1).toNat
theorem kn_go {x1 : Int} {x2 : Setup} {x3 : Int} {x4 : Unit} {x5 : List Row} {x6 : List Maker} {x7 : List Group} {x8 : List Int} {x9 : List Answer} {x10 : Int} {x11 : Unit} {x12 : List Row} {x13 : List Maker} {x14 : List Group} {x15 : List Int} {x16 : List Answer}
 (hp : knPre (x1, (x2, (x3, (x4, (x5, (x6, (x7, (x8, (x9, (x10, (x11, (x12, (x13, (x14, (x15, (x16, ())))))))))))))))) = true) (hlt : x1 < 2) :
 Rounds knPre knMu knFn (x1, (x2, (x3, (x4, (x5, (x6, (x7, (x8, (x9, (x10, (x11, (x12, (x13, (x14, (x15, (x16, ()))))))))))))))))
  (some (.inl ((IntKind.wrap .i64 (x1 + 1)), (x2, (x3, (x4, (x5, (x6, (x7, (x8, (x9, (x10, (x11, (x12, (x13, ((List.append x14 [GroupNew x2.1]), (x15, (x16, ())))))))))))))))))) := by
 simp only [knPre, Bool.and_eq_true, decide_eq_true_eq] at hp
 rw [w64 (n := x1 + 1) (by omega) (by omega)]
 simp only [Rounds]
 refine ⟨?_, by simp only [knMu]; omega, ?_⟩
 · simp only [knPre, Bool.and_eq_true, decide_eq_true_eq, List.append_eq, List.length_append, List.length_cons, List.length_nil]; omega
 · simp only [knFn, List.append_eq]
   rw [show (2 - x1).toNat = (2 - (x1 + 1)).toNat + 1 by omega, List.replicate_succ, List.append_assoc]; rfl
theorem kn_end {x1 : Int} {x2 : Setup} {x3 : Int} {x4 : Unit} {x5 : List Row} {x6 : List Maker} {x7 : List Group} {x8 : List Int} {x9 : List Answer} {x10 : Int} {x11 : Unit} {x12 : List Row} {x13 : List Maker} {x14 : List Group} {x15 : List Int} {x16 : List Answer} (hlt : ¬ x1 < 2) :
 Rounds knPre knMu knFn (x1, (x2, (x3, (x4, (x5, (x6, (x7, (x8, (x9, (x10, (x11, (x12, (x13, (x14, (x15, (x16, ()))))))))))))))))
  (some (.inr (x3, (x4, (x5, (x6, (x7, (x8, (x9, (x10, (x11, (x12, (x13, (x14, (x15, (x16, ())))))))))))))))) := by
 simp only [Rounds, knFn]
 rw [show (2 - x1).toNat = 0 by omega, List.replicate_zero, List.append_nil]
namespace spec_KeepNew
def pre (_ : Setup) : Bool := true
def pre5 := knPre
def fn5 := knFn
def mu5 := knMu
noncomputable def raw5 (x1 : Int) (x2 : Setup) (x3 : Int) (x4 : Unit) (x5 : (List Row)) (x6 : (List Maker)) (x7 : (List Group)) (x8 : (List Int)) (x9 : (List Answer)) (x10 : Int) (x11 : Unit) (x12 : (List Row)) (x13 : (List Maker)) (x14 : (List Group)) (x15 : (List Int)) (x16 : (List Answer)) : Option ((Int × (Setup × (Int × zt5))) ⊕ (Int × zt5)) :=
 if (decide (x1 < (2 : Int))) = true then
 if (spec_GroupNew.pre x2.1) = true then
 letB (GroupNew x2.1) fun v1 =>
 if (decide (List.length x14 + List.length (v1 :: ([] : List Group)) ≤ lim)) = true then
 some (.inl ((IntKind.wrap .i64 (x1 + (1 : Int))), (x2, (x3, (x4, (x5, (x6, (x7, (x8, (x9, (x10, (x11, (x12, (x13, ((List.append x14 (v1 :: ([] : List Group))), (x15, (x16, ())))))))))))))))))
 else
 none
 else
 none
 else
 some (.inr (x3, (x4, (x5, (x6, (x7, (x8, (x9, (x10, (x11, (x12, (x13, (x14, (x15, (x16, ())))))))))))))))
abbrev wf (x0 : Setup) : Prop := wfA [(.val zk27 .f)] (x0, ())
noncomputable def raw (x0 : Setup) : Option (Unit × (zt1 × Unit)) :=
 letB (SetupOk x0) fun v1 =>
 if (!v1) = true then
 some ((), ((([] : List Row), (([] : List Maker), (([] : List Group), ((0 : Int), (([] : List Int), (([] : List Answer), ())))))), ()))
 else
 if (decide ((0 : Int) ≤ x0.1)) = true then
 if (decide (x0.1 ≤ x0.1)) = true then
 if (decide (x0.1 ≤ (4294967296 : Int))) = true then
 if (decide ((0 : Int) ≤ (4 : Int))) = true then
 if (decide ((4 : Int) ≤ (4 : Int))) = true then
 if (decide ((4 : Int) ≤ (4294967296 : Int))) = true then
 if (decide ((0 : Int) ≤ (4 : Int))) = true then
 if (decide ((4 : Int) ≤ (4 : Int))) = true then
 if (decide ((4 : Int) ≤ (4294967296 : Int))) = true then
 if (spec_KeepNew.pre5 ((0 : Int), (x0, ((0 : Int), ((), (([] : List Row), (([] : List Maker), (([] : List Group), (([] : List Int), (([] : List Answer), ((0 : Int), ((), ((List.replicate (Int.toNat x0.1) zd9), (([] : List Maker), (([] : List Group), ((List.replicate (Int.toNat (4 : Int)) (0 : Int)), ((List.replicate (Int.toNat (4 : Int)) ((0 : Int), zd6)), ()))))))))))))))))) = true then
 letB (spec_KeepNew.fn5 ((0 : Int), (x0, ((0 : Int), ((), (([] : List Row), (([] : List Maker), (([] : List Group), (([] : List Int), (([] : List Answer), ((0 : Int), ((), ((List.replicate (Int.toNat x0.1) zd9), (([] : List Maker), (([] : List Group), ((List.replicate (Int.toNat (4 : Int)) (0 : Int)), ((List.replicate (Int.toNat (4 : Int)) ((0 : Int), zd6)), ()))))))))))))))))) fun v2 =>
 some ((), ((v2.2.2.2.2.2.2.2.2.2.1, (v2.2.2.2.2.2.2.2.2.2.2.1, (v2.2.2.2.2.2.2.2.2.2.2.2.1, (v2.2.2.2.2.2.2.2.1, (v2.2.2.2.2.2.2.2.2.2.2.2.2.1, (v2.2.2.2.2.2.2.2.2.2.2.2.2.2.1, v2.2.2.2.2.2.2.2.2.1)))))), ()))
 else
 none
 else
 none
 else
 none
 else
 none
 else
 none
 else
 none
 else
 none
 else
 none
 else
 none
 else
 none
theorem ok5 (x1 : Int) (x2 : Setup) (x3 : Int) (x4 : Unit) (x5 : List Row) (x6 : List Maker) (x7 : List Group) (x8 : List Int) (x9 : List Answer) (x10 : Int) (x11 : Unit) (x12 : List Row) (x13 : List Maker) (x14 : List Group) (x15 : List Int) (x16 : List Answer)
 (hp : pre5 (x1, (x2, (x3, (x4, (x5, (x6, (x7, (x8, (x9, (x10, (x11, (x12, (x13, (x14, (x15, (x16, ())))))))))))))))) = true) :
 Rounds pre5 mu5 fn5 (x1, (x2, (x3, (x4, (x5, (x6, (x7, (x8, (x9, (x10, (x11, (x12, (x13, (x14, (x15, (x16, ())))))))))))))))) (raw5 x1 x2 x3 x4 x5 x6 x7 x8 x9 x10 x11 x12 x13 x14 x15 x16) := by
 unfold raw5
 simp only [letB]
 by_cases hlt : x1 < 2
 · have hp2 := hp
   simp only [pre5, knPre, Bool.and_eq_true, decide_eq_true_eq] at hp2
   rw [if_pos (by simp [hlt]), if_pos (show spec_GroupNew.pre _ = true from rfl), if_pos (by simp only [decide_eq_true_eq, lim, List.length_cons, List.length_nil]; omega)]
   exact kn_go hp hlt
 · rw [if_neg (by simp [hlt])]
   exact kn_end hlt
theorem eq (x0 : Setup) (_ : wf x0) (_ : pre x0 = true) : raw x0 = some ((), (spec_KeepNew x0, ())) := by
 unfold raw spec_KeepNew KeepNew
 simp only [letB]
 by_cases h : SetupOk x0 = true
 case neg => rw [if_pos (by simp [h]), if_neg h]; rfl
 have hs := h
 simp only [SetupOk, Bool.and_eq_true] at hs
 have := within_hi hs.1
 rw [if_neg (by simp [h]), if_pos (by simp only [decide_eq_true_eq]; omega), if_pos (by simp), if_pos (by simp only [decide_eq_true_eq]; omega), if_pos (by decide), if_pos (by decide), if_pos (by decide), if_pos (by decide), if_pos (by decide), if_pos (by decide),
  if_pos (show pre5 _ = true by simp [pre5, knPre]), if_pos h]
 rfl
end spec_KeepNew
section
variable {S O : Type} {pre : S → Bool} {mu : S → Nat} {fn : S → O} {s : S}
theorem R_if {c : Prop} [Decidable c] {A B : Option (S ⊕ O)} (h : c) (r : Rounds pre mu fn s A) : Rounds pre mu fn s (if c then A else B) := by rw [if_pos h]; exact r
theorem R_else {c : Prop} [Decidable c] {A B : Option (S ⊕ O)} (h : ¬ c) (r : Rounds pre mu fn s B) : Rounds pre mu fn s (if c then A else B) := by rw [if_neg h]; exact r
theorem R_let {α : Type} {a : α} {f : α → Option (S ⊕ O)} (r : Rounds pre mu fn s (f a)) : Rounds pre mu fn s (letB a f) := r
end
section
variable {α β : Type}
theorem E_if {c : Prop} [Decidable c] {A B : Option α} {v : Option α} (h : c) (r : A = v) : (if c then A else B) = v := by rw [if_pos h]; exact r
theorem E_else {c : Prop} [Decidable c] {A B : Option α} {v : Option α} (h : ¬ c) (r : B = v) : (if c then A else B) = v := by rw [if_neg h]; exact r
theorem E_let {a : β} {f : β → Option α} {v : Option α} (r : f a = v) : letB a f = v := r
def cpPre (q : α → Bool) (xs : List α) (n i : Int) (out : List α) : Bool := small xs && (xs.all q && (decide (n = (xs.length : Int)) && (decide (0 ≤ i) && (decide (i ≤ (xs.length : Int)) && decide ((out.length : Int) ≤ i)))))
theorem cpPre_iff {q : α → Bool} {xs : List α} {n i : Int} {out : List α} : cpPre q xs n i out = true ↔ xs.length ≤ 16777216 ∧ xs.all q = true ∧ n = (xs.length : Int) ∧ 0 ≤ i ∧ i ≤ (xs.length : Int) ∧ (out.length : Int) ≤ i := by
 simp only [cpPre, Bool.and_eq_true, decide_eq_true_eq, small_iff]
theorem cp_step {q : α → Bool} {xs : List α} {n i : Int} {out : List α} (d : α) (hp : cpPre q xs n i out = true) (hlt : i < n) :
 q (xs.getD i.toNat d) = true ∧ 0 ≤ i ∧ i < (xs.length : Int) ∧ out.length + List.length (xs.getD i.toNat d :: ([] : List α)) ≤ lim ∧ IntKind.wrap .i64 (i + 1) = i + 1 ∧
  cpPre q xs n (i + 1) (out ++ [xs.getD i.toNat d]) = true ∧ (out ++ [xs.getD i.toNat d]) ++ xs.drop (i + 1).toNat = out ++ xs.drop i.toNat ∧ xs.length - (i + 1).toNat < xs.length - i.toNat := by
 obtain ⟨h1, h2, h3, h4, h5, h6⟩ := cpPre_iff.1 hp
 have hn : i.toNat < xs.length := by omega
 have e1 := List.drop_eq_getElem_cons hn
 rw [getD_get hn]
 refine ⟨List.all_eq_true.1 h2 _ (List.getElem_mem _), h4, by omega, by simp only [List.length_cons, List.length_nil, lim]; omega, w64 (by omega) (by omega), ?_, ?_, by omega⟩
 · rw [cpPre_iff]
   exact ⟨h1, h2, h3, by omega, by omega, by simp only [List.length_append, List.length_cons, List.length_nil]; omega⟩
 · rw [show (i + 1).toNat = i.toNat + 1 by omega, e1, List.append_assoc]; rfl
theorem cp_end {q : α → Bool} {xs : List α} {n i : Int} {out : List α} (hp : cpPre q xs n i out = true) (hlt : ¬ i < n) : out ++ xs.drop i.toNat = out := by
 obtain ⟨h1, h2, h3, h4, h5, h6⟩ := cpPre_iff.1 hp
 rw [List.drop_eq_nil_of_le (by omega), List.append_nil]
theorem cp_start {q : α → Bool} {xs : List α} (h : small xs = true) (ha : xs.all q = true) : cpPre q xs ((List.length xs : Nat) : Int) 0 [] = true := by
 rw [cpPre_iff]; rw [small_iff] at h
 exact ⟨h, ha, rfl, by omega, by omega, by simp⟩
theorem cp_lim {xs : List α} (h : small xs = true) : ([] : List β).length + xs.length ≤ lim := by
 rw [small_iff] at h; simp only [List.length_nil, lim]; omega
end
def spec_l3Copy (x : Row) : Row := x
namespace spec_l3Copy
def pre (x : Row) : Bool := small x.2.2.1
abbrev wf (x0 : Row) : Prop := wfA [(.val zk19 .f)] (x0, ())
noncomputable def raw (x0 : Row) : Option (Unit × (Row × Unit)) :=
 if (decide (List.length ([] : List Item) + List.length x0.2.2.1 ≤ lim)) = true then
 some ((), ((x0.1, (x0.2.1, ((List.append ([] : List Item) x0.2.2.1), ()))), ()))
 else
 none
theorem eq (x0 : Row) (_ : wf x0) (hp : pre x0 = true) : raw x0 = some ((), (spec_l3Copy x0, ())) := by
 unfold raw
 have hp : small x0.2.2.1 = true := hp
 refine E_if (decide_eq_true (cp_lim hp)) ?_
 rfl
end spec_l3Copy
def spec_l4Copy (x : Maker) : Maker := x
namespace spec_l4Copy
def pre (x : Maker) : Bool := small x.2.2.2.2.1
abbrev wf (x0 : Maker) : Prop := wfA [(.val zk21 .f)] (x0, ())
noncomputable def raw (x0 : Maker) : Option (Unit × (Maker × Unit)) :=
 if (decide (List.length ([] : List Mark) + List.length x0.2.2.2.2.1 ≤ lim)) = true then
 some ((), ((x0.1, (x0.2.1, (x0.2.2.1, (x0.2.2.2.1, ((List.append ([] : List Mark) x0.2.2.2.2.1), x0.2.2.2.2.2))))), ()))
 else
 none
theorem eq (x0 : Maker) (_ : wf x0) (hp : pre x0 = true) : raw x0 = some ((), (spec_l4Copy x0, ())) := by
 unfold raw
 have hp : small x0.2.2.2.2.1 = true := hp
 refine E_if (decide_eq_true (cp_lim hp)) ?_
 rfl
end spec_l4Copy
def impl_copyDisk (x : Disk) : Disk := x
namespace impl_copyDisk
def pre (x : Disk) : Bool := small x.1
abbrev wf (x0 : Disk) : Prop := wfA [(.val zk25 .f)] (x0, ())
noncomputable def raw (x0 : Disk) : Option (Unit × (Disk × Unit)) :=
 if (decide (List.length ([] : List Int) + List.length x0.1 ≤ lim)) = true then
 some ((), (((List.append ([] : List Int) x0.1), x0.2), ()))
 else
 none
theorem eq (x0 : Disk) (_ : wf x0) (hp : pre x0 = true) : raw x0 = some ((), (impl_copyDisk x0, ())) := by
 unfold raw
 have hp : small x0.1 = true := hp
 refine E_if (decide_eq_true (cp_lim hp)) ?_
 rfl
end impl_copyDisk
def spec_l10Copy (x : Disk) : Disk := x
namespace spec_l10Copy
def pre (x : Disk) : Bool := small x.1
abbrev wf (x0 : Disk) : Prop := wfA [(.val zk25 .f)] (x0, ())
noncomputable def raw (x0 : Disk) : Option (Unit × (Disk × Unit)) :=
 if (decide (List.length ([] : List Int) + List.length x0.1 ≤ lim)) = true then
 some ((), (((List.append ([] : List Int) x0.1), x0.2), ()))
 else
 none
theorem eq (x0 : Disk) (_ : wf x0) (hp : pre x0 = true) : raw x0 = some ((), (spec_l10Copy x0, ())) := by
 unfold raw
 have hp : small x0.1 = true := hp
 refine E_if (decide_eq_true (cp_lim hp)) ?_
 rfl
end spec_l10Copy
def groupS (x : Group) : Bool := small x.2.1 && (small x.2.2.1 && small x.2.2.2.1)
def spec_l5Copy (x : Group) : Group := x
namespace spec_l5Copy
def pre (x : Group) : Bool := groupS x
abbrev wf (x0 : Group) : Prop := wfA [(.val zk14 .f)] (x0, ())
noncomputable def raw (x0 : Group) : Option (Unit × (Group × Unit)) :=
 if (decide (List.length ([] : List Int) + List.length x0.2.1 ≤ lim)) = true then
 if (decide (List.length ([] : List Int) + List.length x0.2.2.1 ≤ lim)) = true then
 if (decide (List.length ([] : List Int) + List.length x0.2.2.2.1 ≤ lim)) = true then
 some ((), ((x0.1, ((List.append ([] : List Int) x0.2.1), ((List.append ([] : List Int) x0.2.2.1), ((List.append ([] : List Int) x0.2.2.2.1), ())))), ()))
 else
 none
 else
 none
 else
 none
theorem eq (x0 : Group) (_ : wf x0) (hp : pre x0 = true) : raw x0 = some ((), (spec_l5Copy x0, ())) := by
 simp only [pre, groupS, Bool.and_eq_true] at hp
 unfold raw
 refine E_if (decide_eq_true (cp_lim hp.1)) (E_if (decide_eq_true (cp_lim hp.2.1)) (E_if (decide_eq_true (cp_lim hp.2.2)) ?_))
 rfl
end spec_l5Copy
def spec_l6Copy (x : Keep) : Keep := x
namespace spec_l6Copy
abbrev S3 : Type := (Int × (zt1 × (Int × zt5)))
abbrev O3 : Type := (zt1 × (Int × zt5))
abbrev S7 : Type := (Int × (zt1 × (Int × zt5)))
abbrev O7 : Type := (zt1 × (Int × zt5))
abbrev S11 : Type := (Int × (zt1 × (Int × zt5)))
abbrev O11 : Type := (Int × zt5)
def pre (x : Keep) : Bool := small x.1 && (x.1.all spec_l3Copy.pre && (small x.2.1 && (x.2.1.all spec_l4Copy.pre && (small x.2.2.1 && (x.2.2.1.all spec_l5Copy.pre && (small x.2.2.2.2.1 && small x.2.2.2.2.2.1))))))
def pre3 : S3 → Bool := fun (x1, x2, _, _, _, _, _, _, _, _, _, x12, _, _, _, _, _) => cpPre spec_l3Copy.pre x2.1 ((List.length x2.1 : Nat) : Int) x1 x12
def fn3 : S3 → O3 := fun (x1, x2, x3, x4, x5, x6, x7, x8, x9, x10, x11, x12, x13, x14, x15, x16, _) => (x2, (x3, (x4, (x5, (x6, (x7, (x8, (x9, (x10, (x11, (x12 ++ x2.1.drop x1.toNat, (x13, (x14, (x15, (x16, ())))))))))))))))
def mu3 : S3 → Nat := fun (x1, x2, _, _, _, _, _, _, _, _, _, _, _, _, _, _, _) => x2.1.length - x1.toNat
def pre7 : S7 → Bool := fun (x1, x2, _, _, _, _, _, _, _, _, _, _, x13, _, _, _, _) => cpPre spec_l4Copy.pre x2.2.1 ((List.length x2.2.1 : Nat) : Int) x1 x13
def fn7 : S7 → O7 := fun (x1, x2, x3, x4, x5, x6, x7, x8, x9, x10, x11, x12, x13, x14, x15, x16, _) => (x2, (x3, (x4, (x5, (x6, (x7, (x8, (x9, (x10, (x11, (x12, (x13 ++ x2.2.1.drop x1.toNat, (x14, (x15, (x16, ())))))))))))))))
def mu7 : S7 → Nat := fun (x1, x2, _, _, _, _, _, _, _, _, _, _, _, _, _, _, _) => x2.2.1.length - x1.toNat
def pre11 : S11 → Bool := fun (x1, x2, _, _, _, _, _, _, _, _, _, _, _, x14, _, _, _) => cpPre spec_l5Copy.pre x2.2.2.1 ((List.length x2.2.2.1 : Nat) : Int) x1 x14
def fn11 : S11 → O11 := fun (x1, x2, x3, x4, x5, x6, x7, x8, x9, x10, x11, x12, x13, x14, x15, x16, _) => (x3, (x4, (x5, (x6, (x7, (x8, (x9, (x10, (x11, (x12, (x13, (x14 ++ x2.2.2.1.drop x1.toNat, (x15, (x16, ()))))))))))))))
def mu11 : S11 → Nat := fun (x1, x2, _, _, _, _, _, _, _, _, _, _, _, _, _, _, _) => x2.2.2.1.length - x1.toNat
noncomputable def raw3 (x1 : Int) (x2 : zt1) (x3 : Int) (x4 : Unit) (x5 : (List Row)) (x6 : (List Maker)) (x7 : (List Group)) (x8 : (List Int)) (x9 : (List Answer)) (x10 : Int) (x11 : Unit) (x12 : (List Row)) (x13 : (List Maker)) (x14 : (List Group)) (x15 : (List Int)) (x16 : (List Answer)) : Option ((Int × (zt1 × (Int × zt5))) ⊕ (zt1 × (Int × zt5))) :=
 if (decide (x1 < ((List.length x2.1 : Nat) : Int))) = true then
 if (decide ((0 : Int) ≤ x1)) = true then
 if (decide (x1 < ((List.length x2.1 : Nat) : Int))) = true then
 if (spec_l3Copy.pre (List.getD x2.1 (Int.toNat x1) zd9)) = true then
 letB (spec_l3Copy (List.getD x2.1 (Int.toNat x1) zd9)) fun v1 =>
 if (decide (List.length x12 + List.length (v1 :: ([] : List Row)) ≤ lim)) = true then
 some (.inl ((IntKind.wrap .i64 (x1 + (1 : Int))), (x2, (x3, (x4, (x5, (x6, (x7, (x8, (x9, (x10, (x11, ((List.append x12 (v1 :: ([] : List Row))), (x13, (x14, (x15, (x16, ())))))))))))))))))
 else
 none
 else
 none
 else
 none
 else
 none
 else
 some (.inr (x2, (x3, (x4, (x5, (x6, (x7, (x8, (x9, (x10, (x11, (x12, (x13, (x14, (x15, (x16, ()))))))))))))))))
noncomputable def raw7 (x1 : Int) (x2 : zt1) (x3 : Int) (x4 : Unit) (x5 : (List Row)) (x6 : (List Maker)) (x7 : (List Group)) (x8 : (List Int)) (x9 : (List Answer)) (x10 : Int) (x11 : Unit) (x12 : (List Row)) (x13 : (List Maker)) (x14 : (List Group)) (x15 : (List Int)) (x16 : (List Answer)) : Option ((Int × (zt1 × (Int × zt5))) ⊕ (zt1 × (Int × zt5))) :=
 if (decide (x1 < ((List.length x2.2.1 : Nat) : Int))) = true then
 if (decide ((0 : Int) ≤ x1)) = true then
 if (decide (x1 < ((List.length x2.2.1 : Nat) : Int))) = true then
 if (spec_l4Copy.pre (List.getD x2.2.1 (Int.toNat x1) zd4)) = true then
 letB (spec_l4Copy (List.getD x2.2.1 (Int.toNat x1) zd4)) fun v1 =>
 if (decide (List.length x13 + List.length (v1 :: ([] : List Maker)) ≤ lim)) = true then
 some (.inl ((IntKind.wrap .i64 (x1 + (1 : Int))), (x2, (x3, (x4, (x5, (x6, (x7, (x8, (x9, (x10, (x11, (x12, ((List.append x13 (v1 :: ([] : List Maker))), (x14, (x15, (x16, ())))))))))))))))))
 else
 none
 else
 none
 else
 none
 else
 none
 else
 some (.inr (x2, (x3, (x4, (x5, (x6, (x7, (x8, (x9, (x10, (x11, (x12, (x13, (x14, (x15, (x16, ()))))))))))))))))
noncomputable def raw11 (x1 : Int) (x2 : zt1) (x3 : Int) (x4 : Unit) (x5 : (List Row)) (x6 : (List Maker)) (x7 : (List Group)) (x8 : (List Int)) (x9 : (List Answer)) (x10 : Int) (x11 : Unit) (x12 : (List Row)) (x13 : (List Maker)) (x14 : (List Group)) (x15 : (List Int)) (x16 : (List Answer)) : Option ((Int × (zt1 × (Int × zt5))) ⊕ (Int × zt5)) :=
 if (decide (x1 < ((List.length x2.2.2.1 : Nat) : Int))) = true then
 if (decide ((0 : Int) ≤ x1)) = true then
 if (decide (x1 < ((List.length x2.2.2.1 : Nat) : Int))) = true then
 if (spec_l5Copy.pre (List.getD x2.2.2.1 (Int.toNat x1) zd7)) = true then
 letB (spec_l5Copy (List.getD x2.2.2.1 (Int.toNat x1) zd7)) fun v1 =>
 if (decide (List.length x14 + List.length (v1 :: ([] : List Group)) ≤ lim)) = true then
 some (.inl ((IntKind.wrap .i64 (x1 + (1 : Int))), (x2, (x3, (x4, (x5, (x6, (x7, (x8, (x9, (x10, (x11, (x12, (x13, ((List.append x14 (v1 :: ([] : List Group))), (x15, (x16, ())))))))))))))))))
 else
 none
 else
 none
 else
 none
 else
 none
 else
 some (.inr (x3, (x4, (x5, (x6, (x7, (x8, (x9, (x10, (x11, (x12, (x13, (x14, (x15, (x16, ())))))))))))))))
abbrev wf (x0 : zt1) : Prop := wfA [(.val zk3 .f)] (x0, ())
noncomputable def raw (x0 : zt1) : Option (Unit × (zt1 × Unit)) :=
 if (decide (List.length ([] : List Int) + List.length x0.2.2.2.2.1 ≤ lim)) = true then
 if (decide (List.length ([] : List Answer) + List.length x0.2.2.2.2.2.1 ≤ lim)) = true then
 if (spec_l6Copy.pre3 ((0 : Int), (x0, ((0 : Int), ((), (([] : List Row), (([] : List Maker), (([] : List Group), (([] : List Int), (([] : List Answer), (x0.2.2.2.1, ((), (([] : List Row), (([] : List Maker), (([] : List Group), ((List.append ([] : List Int) x0.2.2.2.2.1), ((List.append ([] : List Answer) x0.2.2.2.2.2.1), ()))))))))))))))))) = true then
 letB (spec_l6Copy.fn3 ((0 : Int), (x0, ((0 : Int), ((), (([] : List Row), (([] : List Maker), (([] : List Group), (([] : List Int), (([] : List Answer), (x0.2.2.2.1, ((), (([] : List Row), (([] : List Maker), (([] : List Group), ((List.append ([] : List Int) x0.2.2.2.2.1), ((List.append ([] : List Answer) x0.2.2.2.2.2.1), ()))))))))))))))))) fun v1 =>
 if (spec_l6Copy.pre7 ((0 : Int), v1)) = true then
 letB (spec_l6Copy.fn7 ((0 : Int), v1)) fun v2 =>
 if (spec_l6Copy.pre11 ((0 : Int), v2)) = true then
 letB (spec_l6Copy.fn11 ((0 : Int), v2)) fun v3 =>
 some ((), ((v3.2.2.2.2.2.2.2.2.2.1, (v3.2.2.2.2.2.2.2.2.2.2.1, (v3.2.2.2.2.2.2.2.2.2.2.2.1, (v3.2.2.2.2.2.2.2.1, (v3.2.2.2.2.2.2.2.2.2.2.2.2.1, (v3.2.2.2.2.2.2.2.2.2.2.2.2.2.1, v3.2.2.2.2.2.2.2.2.1)))))), ()))
 else
 none
 else
 none
 else
 none
 else
 none
 else
 none
theorem ok3 (x1 x2 x3 x4 x5 x6 x7 x8 x9 x10 x11 x12 x13 x14 x15 x16) (hp : pre3 (x1, (x2, (x3, (x4, (x5, (x6, (x7, (x8, (x9, (x10, (x11, (x12, (x13, (x14, (x15, (x16, ())))))))))))))))) = true) : Rounds pre3 mu3 fn3 (x1, (x2, (x3, (x4, (x5, (x6, (x7, (x8, (x9, (x10, (x11, (x12, (x13, (x14, (x15, (x16, ())))))))))))))))) (raw3 x1 x2 x3 x4 x5 x6 x7 x8 x9 x10 x11 x12 x13 x14 x15 x16) := by
 have hp : cpPre spec_l3Copy.pre x2.1 ((List.length x2.1 : Nat) : Int) x1 x12 = true := hp
 unfold raw3
 by_cases hlt : x1 < ((List.length x2.1 : Nat) : Int)
 · obtain ⟨hq, h0, h1, h2, h3, h4, h5, h6⟩ := cp_step zd9 hp hlt
   rw [h3]
   refine R_if (decide_eq_true hlt) ?_
   refine R_if (decide_eq_true h0) ?_
   refine R_if (decide_eq_true h1) ?_
   refine R_if hq ?_
   refine R_let ?_
   refine R_if (decide_eq_true h2) ?_
   exact ⟨h4, h6, congrArg (fun z : List Row => ((x2, (x3, (x4, (x5, (x6, (x7, (x8, (x9, (x10, (x11, (z, (x13, (x14, (x15, (x16, ()))))))))))))))) : O3)) h5⟩
 · refine R_else (by rw [decide_eq_true_eq]; exact hlt) ?_
   show _ = _
   exact congrArg (fun z : List Row => ((x2, (x3, (x4, (x5, (x6, (x7, (x8, (x9, (x10, (x11, (z, (x13, (x14, (x15, (x16, ()))))))))))))))) : O3)) (cp_end hp hlt).symm
theorem ok7 (x1 x2 x3 x4 x5 x6 x7 x8 x9 x10 x11 x12 x13 x14 x15 x16) (hp : pre7 (x1, (x2, (x3, (x4, (x5, (x6, (x7, (x8, (x9, (x10, (x11, (x12, (x13, (x14, (x15, (x16, ())))))))))))))))) = true) : Rounds pre7 mu7 fn7 (x1, (x2, (x3, (x4, (x5, (x6, (x7, (x8, (x9, (x10, (x11, (x12, (x13, (x14, (x15, (x16, ())))))))))))))))) (raw7 x1 x2 x3 x4 x5 x6 x7 x8 x9 x10 x11 x12 x13 x14 x15 x16) := by
 have hp : cpPre spec_l4Copy.pre x2.2.1 ((List.length x2.2.1 : Nat) : Int) x1 x13 = true := hp
 unfold raw7
 by_cases hlt : x1 < ((List.length x2.2.1 : Nat) : Int)
 · obtain ⟨hq, h0, h1, h2, h3, h4, h5, h6⟩ := cp_step zd4 hp hlt
   rw [h3]
   refine R_if (decide_eq_true hlt) ?_
   refine R_if (decide_eq_true h0) ?_
   refine R_if (decide_eq_true h1) ?_
   refine R_if hq ?_
   refine R_let ?_
   refine R_if (decide_eq_true h2) ?_
   exact ⟨h4, h6, congrArg (fun z : List Maker => ((x2, (x3, (x4, (x5, (x6, (x7, (x8, (x9, (x10, (x11, (x12, (z, (x14, (x15, (x16, ()))))))))))))))) : O7)) h5⟩
 · refine R_else (by rw [decide_eq_true_eq]; exact hlt) ?_
   show _ = _
   exact congrArg (fun z : List Maker => ((x2, (x3, (x4, (x5, (x6, (x7, (x8, (x9, (x10, (x11, (x12, (z, (x14, (x15, (x16, ()))))))))))))))) : O7)) (cp_end hp hlt).symm
theorem ok11 (x1 x2 x3 x4 x5 x6 x7 x8 x9 x10 x11 x12 x13 x14 x15 x16) (hp : pre11 (x1, (x2, (x3, (x4, (x5, (x6, (x7, (x8, (x9, (x10, (x11, (x12, (x13, (x14, (x15, (x16, ())))))))))))))))) = true) : Rounds pre11 mu11 fn11 (x1, (x2, (x3, (x4, (x5, (x6, (x7, (x8, (x9, (x10, (x11, (x12, (x13, (x14, (x15, (x16, ())))))))))))))))) (raw11 x1 x2 x3 x4 x5 x6 x7 x8 x9 x10 x11 x12 x13 x14 x15 x16) := by
 have hp : cpPre spec_l5Copy.pre x2.2.2.1 ((List.length x2.2.2.1 : Nat) : Int) x1 x14 = true := hp
 unfold raw11
 by_cases hlt : x1 < ((List.length x2.2.2.1 : Nat) : Int)
 · obtain ⟨hq, h0, h1, h2, h3, h4, h5, h6⟩ := cp_step zd7 hp hlt
   rw [h3]
   refine R_if (decide_eq_true hlt) ?_
   refine R_if (decide_eq_true h0) ?_
   refine R_if (decide_eq_true h1) ?_
   refine R_if hq ?_
   refine R_let ?_
   refine R_if (decide_eq_true h2) ?_
   exact ⟨h4, h6, congrArg (fun z : List Group => ((x3, (x4, (x5, (x6, (x7, (x8, (x9, (x10, (x11, (x12, (x13, (z, (x15, (x16, ())))))))))))))) : O11)) h5⟩
 · refine R_else (by rw [decide_eq_true_eq]; exact hlt) ?_
   show _ = _
   exact congrArg (fun z : List Group => ((x3, (x4, (x5, (x6, (x7, (x8, (x9, (x10, (x11, (x12, (x13, (z, (x15, (x16, ())))))))))))))) : O11)) (cp_end hp hlt).symm
theorem eq (x0 : Keep) (_ : wf x0) (hp : pre x0 = true) : raw x0 = some ((), (spec_l6Copy x0, ())) := by
 simp only [pre, Bool.and_eq_true] at hp
 obtain ⟨a1, a2, a3, a4, a5, a6, a7, a8⟩ := hp
 unfold raw
 refine E_if (decide_eq_true (cp_lim a7)) (E_if (decide_eq_true (cp_lim a8)) ?_)
 refine E_if (show pre3 _ = true from cp_start a1 a2) (E_let ?_)
 refine E_if (show pre7 _ = true from cp_start a3 a4) (E_let ?_)
 exact E_if (show pre11 _ = true from cp_start a5 a6) (E_let rfl)
end spec_l6Copy
theorem ofInt_nat {w : Nat} {x : Int} (h0 : 0 ≤ x) (h1 : x.toNat < 2 ^ w) : (BitVec.ofInt w x).toNat = x.toNat := by
 rw [BitVec.toNat_ofInt]
 have : x % ((2 ^ w : Nat) : Int) = x := Int.emod_eq_of_lt h0 (by omega)
 rw [this]
def putI (n : Nat) : List Int := if n ≤ 127 then [] else ((n % 128 + 128 : Nat) : Int) :: putI (n / 128)
termination_by n
decreasing_by omega
def putZ (n : Nat) : Nat := if n ≤ 127 then n else putZ (n / 128)
termination_by n
decreasing_by omega
def putN (n : Nat) : List Int := putI n ++ [(putZ n : Int)]
def PutNum (n : Int) : List Int := if 0 ≤ n ∧ n ≤ 2147483647 then putN n.toNat else []
abbrev spec_PutNum := PutNum
theorem putZ_le (n : Nat) : putZ n ≤ 127 := by
 induction n using Nat.strongRecOn with
 | ind n ih =>
  rw [putZ]
  split
  · assumption
  · exact ih _ (by omega)
theorem putI_len : (k : Nat) → {n : Nat} → n < 128 ^ (k + 1) → (putI n).length ≤ k
 | 0, n, h => by rw [putI, if_pos (by omega)]; simp
 | k + 1, n, h => by
  rw [putI]
  split
  · simp
  · rw [List.length_cons]
    have := putI_len k (n := n / 128) (by rw [Nat.pow_succ] at h; omega)
    omega
theorem PutNum_len (n : Int) : (PutNum n).length ≤ 5 := by
 unfold PutNum
 split
 · rw [putN, List.length_append]
   have := putI_len 4 (n := n.toNat) (by omega)
   simpa using this
 · simp
abbrev PnS := Int × (List Int × Unit)
def pnPre : PnS → Bool := fun s => decide (0 ≤ s.1) && (decide (s.1 ≤ 2147483647) && decide (s.2.1.length + s.1.toNat ≤ 2147483700))
def pnFn : PnS → PnS := fun s => ((putZ s.1.toNat : Int), (s.2.1 ++ putI s.1.toNat, ()))
def pnMu : PnS → Nat := fun s => s.1.toNat
theorem pn_next {n : Int} {out : List Int} (hp : pnPre (n, (out, ())) = true) (h : 127 < n) : Rounds pnPre pnMu pnFn (n, (out, ())) (some (.inl (n / 128, (out ++ [n % 128 + 128], ())))) := by
 simp only [pnPre, Bool.and_eq_true, decide_eq_true_eq] at hp
 obtain ⟨h0, h1, h2⟩ := hp
 simp only [Rounds]
 refine ⟨?_, by simp only [pnMu]; omega, ?_⟩
 · simp only [pnPre, Bool.and_eq_true, decide_eq_true_eq, List.length_append, List.length_cons, List.length_nil]
   omega
 · simp only [pnFn]
   have e : (n / 128).toNat = n.toNat / 128 := by omega
   have e2 : ((n.toNat % 128 + 128 : Nat) : Int) = n % 128 + 128 := by omega
   rw [e]
   conv => rhs; rw [putZ, if_neg (by omega), putI, if_neg (by omega), e2]
   simp
theorem pn_end {n : Int} {out : List Int} (hp : pnPre (n, (out, ())) = true) (h : ¬ 127 < n) : Rounds pnPre pnMu pnFn (n, (out, ())) (some (.inr (n, (out, ())))) := by
 simp only [pnPre, Bool.and_eq_true, decide_eq_true_eq] at hp
 obtain ⟨h0, h1, h2⟩ := hp
 simp only [Rounds, pnFn]
 rw [putZ, if_pos (by omega), putI, if_pos (by omega), Int.toNat_of_nonneg h0, List.append_nil]
namespace spec_PutNum
def pre4 := pnPre
def fn4 := pnFn
def mu4 := pnMu
noncomputable def raw4 (x1 : Int) (x2 : (List Int)) : Option ((Int × zt17) ⊕ (Int × zt17)) :=
 if (decide ((127 : Int) < x1)) = true then
 if (!(decide ((128 : Int) = (0 : Int)))) = true then
 if (decide (List.length x2 + List.length ((IntKind.wrap .u8 (IntKind.wrap .i64 ((Int.tmod x1 (128 : Int)) + (128 : Int)))) :: ([] : List Int)) ≤ lim)) = true then
 if (!(decide ((128 : Int) = (0 : Int)))) = true then
 some (.inl ((IntKind.wrap .i64 (Int.tdiv x1 (128 : Int))), ((List.append x2 ((IntKind.wrap .u8 (IntKind.wrap .i64 ((Int.tmod x1 (128 : Int)) + (128 : Int)))) :: ([] : List Int))), ())))
 else
 none
 else
 none
 else
 none
 else
 some (.inr (x1, (x2, ())))
abbrev wf (x0 : Int) : Prop := wfA [(.val (.int .i64) .f)] (x0, ())
noncomputable def raw (x0 : Int) : Option (Unit × zt17) :=
 if (!(impl_within x0 (0 : Int) (2147483647 : Int))) = true then
 some ((), (([] : List Int), ()))
 else
 if (spec_PutNum.pre4 (x0, (([] : List Int), ()))) = true then
 if (decide (List.length (spec_PutNum.fn4 (x0, (([] : List Int), ()))).2.1 + List.length ((IntKind.wrap .u8 (spec_PutNum.fn4 (x0, (([] : List Int), ()))).1) :: ([] : List Int)) ≤ lim)) = true then
 some ((), ((List.append (spec_PutNum.fn4 (x0, (([] : List Int), ()))).2.1 ((IntKind.wrap .u8 (spec_PutNum.fn4 (x0, (([] : List Int), ()))).1) :: ([] : List Int))), ()))
 else
 none
 else
 none
theorem ok4 (x1 : Int) (x2 : List Int) (hp : pre4 (x1, (x2, ())) = true) : Rounds pre4 mu4 fn4 (x1, (x2, ())) (raw4 x1 x2) := by
 have hp' := hp
 simp only [pre4, pnPre, Bool.and_eq_true, decide_eq_true_eq] at hp'
 obtain ⟨h0, h1, h2⟩ := hp'
 unfold raw4
 by_cases h : 127 < x1
 · rw [Int.tmod_eq_emod_of_nonneg h0, Int.tdiv_eq_ediv_of_nonneg h0, w64 (n := x1 % 128 + 128) (by omega) (by omega), w8 (by omega) (by omega), w64 (n := x1 / 128) (by omega) (by omega)]
   rw [if_pos (by simp [h]), if_pos (by decide), if_pos (by simp only [List.length_cons, List.length_nil, decide_eq_true_eq, lim]; omega), if_pos (by decide)]
   exact pn_next hp h
 · rw [if_neg (by simp [h])]
   exact pn_end hp h
theorem eq (x0 : Int) (_ : wf x0) : raw x0 = some ((), (spec_PutNum x0, ())) := by
 unfold raw spec_PutNum PutNum impl_within
 by_cases h : 0 ≤ x0 ∧ x0 ≤ 2147483647
 · have hl := putI_len 4 (n := x0.toNat) (by omega)
   have hz := putZ_le x0.toNat
   rw [if_neg (by simp [h]), if_pos (show pre4 _ = true by simp [pre4, pnPre]; omega)]
   have hf : fn4 (x0, (([] : List Int), ())) = ((putZ x0.toNat : Int), ([] ++ putI x0.toNat, ())) := rfl
   rw [hf, if_pos (by simp only [List.nil_append, List.length_cons, List.length_nil, decide_eq_true_eq, lim]; omega), if_pos h]
   simp only [List.nil_append, List.append_eq, putN]
   rw [w8 (by omega) (by omega)]
 · rw [if_pos (by simp only [Bool.not_eq_true', Bool.and_eq_false_iff, decide_eq_false_iff_not]; omega), if_neg h]
end spec_PutNum
def PutText (s : List UInt8) : List Int := PutNum s.length ++ bytesOf s
abbrev spec_PutText := PutText
def txtPre (s : List UInt8) : Bool := decide (s.length ≤ 1073741824)
theorem PutText_len (s : List UInt8) : (PutText s).length ≤ s.length + 5 := by
 have := PutNum_len s.length
 simp only [PutText, List.length_append, bytesOf, List.length_map]; omega
namespace spec_PutText
def pre := txtPre
abbrev wf (x0 : (List UInt8)) : Prop := wfA [(.val .str .f)] (x0, ())
noncomputable def raw (x0 : (List UInt8)) : Option (Unit × zt17) :=
 if (decide (List.length x0 ≤ lim)) = true then
 letB (PutNum ((List.length x0 : Nat) : Int)) fun v1 =>
 if (decide (List.length v1 + List.length (bytesOf x0) ≤ lim)) = true then
 some ((), ((List.append v1 (bytesOf x0)), ()))
 else
 none
 else
 none
theorem eq (x0 : List UInt8) (_ : wf x0) (hp : pre x0 = true) : raw x0 = some ((), (spec_PutText x0, ())) := by
 have hl := PutNum_len x0.length
 simp only [pre, txtPre, decide_eq_true_eq] at hp
 unfold raw
 simp only [letB]
 rw [if_pos (by simp only [decide_eq_true_eq, lim]; omega), if_pos (by simp only [bytesOf, List.length_map, decide_eq_true_eq, lim]; omega)]
 rfl
end spec_PutText
def nums (xs : List Int) : List Int := xs.flatMap PutNum
abbrev spec_l7Nums := nums
theorem nums_len : (xs : List Int) → (nums xs).length ≤ 5 * xs.length
 | [] => by simp [nums]
 | a :: r => by
  have := PutNum_len a
  have := nums_len r
  simp only [nums, List.flatMap_cons, List.length_append, List.length_cons] at *
  omega
def numsPre (xs : List Int) : Bool := small xs
namespace spec_l7Nums
def pre := numsPre
abbrev S := List Int × (Int × (List Int × Unit))
def pre3 : S → Bool := fun s => small s.1 && (decide (0 ≤ s.2.1) && (decide (s.2.1.toNat ≤ s.1.length) && decide (s.2.2.1.length ≤ 5 * s.2.1.toNat)))
def fn3 : S → List Int × Unit := fun s => (s.2.2.1 ++ nums (s.1.drop s.2.1.toNat), ())
def mu3 : S → Nat := fun s => s.1.length - s.2.1.toNat
noncomputable def raw3 (x1 : (List Int)) (x2 : Int) (x3 : (List Int)) : Option (((List Int) × (Int × zt17)) ⊕ zt17) :=
 if (decide (x2 < ((List.length x1 : Nat) : Int))) = true then
 if (decide ((0 : Int) ≤ x2)) = true then
 if (decide (x2 < ((List.length x1 : Nat) : Int))) = true then
 if (decide (List.length x3 + List.length (PutNum (List.getD x1 (Int.toNat x2) (0 : Int))) ≤ lim)) = true then
 some (.inl (x1, ((IntKind.wrap .i64 (x2 + (1 : Int))), ((List.append x3 (PutNum (List.getD x1 (Int.toNat x2) (0 : Int)))), ()))))
 else
 none
 else
 none
 else
 none
 else
 some (.inr (x3, ()))
abbrev wf (x0 : (List Int)) : Prop := wfA [(.val (.sl 0 (.int .i64)) .f)] (x0, ())
noncomputable def raw (x0 : (List Int)) : Option (Unit × zt17) :=
 if (spec_l7Nums.pre3 (x0, ((0 : Int), (([] : List Int), ())))) = true then
 some ((), (spec_l7Nums.fn3 (x0, ((0 : Int), (([] : List Int), ())))))
 else
 none
theorem ok3 (x1 : List Int) (x2 : Int) (x3 : List Int) (hp : pre3 (x1, (x2, (x3, ()))) = true) : Rounds pre3 mu3 fn3 (x1, (x2, (x3, ()))) (raw3 x1 x2 x3) := by
 simp only [pre3, Bool.and_eq_true, decide_eq_true_eq, small_iff] at hp
 obtain ⟨h1, h2, h3, h4⟩ := hp
 unfold raw3
 by_cases hlt : x2 < (x1.length : Int)
 · have hn : x2.toNat < x1.length := by omega
   have hl := PutNum_len (x1.getD x2.toNat 0)
   rw [if_pos (by simp [hlt]), if_pos (by simp [h2]), if_pos (by simp [hlt]), if_pos (by simp only [decide_eq_true_eq, lim]; omega), w64 (by omega) (by omega)]
   simp only [Rounds]
   refine ⟨?_, by simp only [mu3]; omega, ?_⟩
   · simp only [pre3, Bool.and_eq_true, decide_eq_true_eq, small_iff, List.append_eq, List.length_append]; omega
   · simp only [fn3, show (x2 + 1).toNat = x2.toNat + 1 by omega]
     rw [List.drop_eq_getElem_cons hn, getD_get hn]
     simp only [nums, List.flatMap_cons, List.append_eq, List.append_assoc]
 · rw [if_neg (by simp [hlt])]
   simp only [Rounds, fn3]
   rw [List.drop_eq_nil_of_le (by omega)]
   simp [nums]
theorem eq (x0 : List Int) (_ : wf x0) (hp : pre x0 = true) : raw x0 = some ((), (spec_l7Nums x0, ())) := by
 unfold raw
 rw [if_pos (show pre3 _ = true by simp [pre3, show small x0 = true from hp])]
 simp [fn3]
end spec_l7Nums
def sumF (s : Int × Int) (a : Int) : Int × Int :=
 (Int.tmod (IntKind.wrap .i64 (s.1 + IntKind.wrap .i64 a)) 65521, Int.tmod (IntKind.wrap .i64 (s.2 + Int.tmod (IntKind.wrap .i64 (s.1 + IntKind.wrap .i64 a)) 65521)) 65521)
def SumOf (b : List Int) : Int := IntKind.wrap .i64 (IntKind.wrap .i64 ((b.foldl sumF (1, 0)).2 * 65536) + (b.foldl sumF (1, 0)).1)
abbrev spec_SumOf := SumOf
namespace spec_SumOf
abbrev S := List Int × (Int × (Int × (Int × Unit)))
def pre3 : S → Bool := fun s => decide (s.1.length ≤ maxLen) && (decide (0 ≤ s.2.2.2.1) && decide (s.2.2.2.1.toNat ≤ s.1.length))
def fn3 : S → Int × (Int × Unit) := fun s => (((s.1.drop s.2.2.2.1.toNat).foldl sumF (s.2.1, s.2.2.1)).1, (((s.1.drop s.2.2.2.1.toNat).foldl sumF (s.2.1, s.2.2.1)).2, ()))
def mu3 : S → Nat := fun s => s.1.length - s.2.2.2.1.toNat
noncomputable def raw3 (x1 : (List Int)) (x2 : Int) (x3 : Int) (x4 : Int) : Option (((List Int) × (Int × Mark)) ⊕ Mark) :=
 if (decide (x4 < ((List.length x1 : Nat) : Int))) = true then
 if (decide ((0 : Int) ≤ x4)) = true then
 if (decide (x4 < ((List.length x1 : Nat) : Int))) = true then
 if (!(decide ((65521 : Int) = (0 : Int)))) = true then
 if (!(decide ((65521 : Int) = (0 : Int)))) = true then
 some (.inl (x1, ((Int.tmod (IntKind.wrap .i64 (x2 + (IntKind.wrap .i64 (List.getD x1 (Int.toNat x4) (0 : Int))))) (65521 : Int)), ((Int.tmod (IntKind.wrap .i64 (x3 + (Int.tmod (IntKind.wrap .i64 (x2 + (IntKind.wrap .i64 (List.getD x1 (Int.toNat x4) (0 : Int))))) (65521 : Int)))) (65521 : Int)), ((IntKind.wrap .i64 (x4 + (1 : Int))), ())))))
 else
 none
 else
 none
 else
 none
 else
 none
 else
 some (.inr (x2, (x3, ())))
abbrev wf (x0 : (List Int)) : Prop := wfA [(.val zk20 .f)] (x0, ())
noncomputable def raw (x0 : (List Int)) : Option (Unit × (Int × Unit)) :=
 if (spec_SumOf.pre3 (x0, ((1 : Int), zd23))) = true then
 some ((), ((IntKind.wrap .i64 ((IntKind.wrap .i64 ((spec_SumOf.fn3 (x0, ((1 : Int), zd23))).2.1 * (65536 : Int))) + (spec_SumOf.fn3 (x0, ((1 : Int), zd23))).1)), ()))
 else
 none
theorem ok3 (x1 : List Int) (x2 x3 x4 : Int) (hp : pre3 (x1, (x2, (x3, (x4, ())))) = true) : Rounds pre3 mu3 fn3 (x1, (x2, (x3, (x4, ())))) (raw3 x1 x2 x3 x4) := by
 simp only [pre3, Bool.and_eq_true, decide_eq_true_eq] at hp
 obtain ⟨h1, h2, h3⟩ := hp
 have hM := maxLen_eq
 unfold raw3
 by_cases hlt : x4 < (x1.length : Int)
 · have hn : x4.toNat < x1.length := by omega
   have e1 := List.drop_eq_getElem_cons hn
   rw [if_pos (by simp [hlt]), if_pos (by simp [h2]), if_pos (by simp [hlt]), if_pos (by decide), if_pos (by decide), getD_get hn, w64 (n := x4 + 1) (by omega) (by omega)]
   simp only [Rounds]
   refine ⟨?_, by simp only [mu3]; omega, ?_⟩
   · simp only [pre3, Bool.and_eq_true, decide_eq_true_eq]; omega
   · simp only [fn3, show (x4 + 1).toNat = x4.toNat + 1 by omega, e1, List.foldl_cons, sumF]
 · rw [if_neg (by simp [hlt])]
   simp only [Rounds, fn3]
   rw [List.drop_eq_nil_of_le (by omega)]
   rfl
theorem eq (x0 : List Int) (hw : wf x0) : raw x0 = some ((), (spec_SumOf x0, ())) := by
 have h1 : x0.length ≤ maxLen := hw.1.1
 unfold raw
 rw [if_pos (show pre3 _ = true by simp [pre3, h1])]
 rfl
end spec_SumOf
def sum4 (s : Int) : List Int :=
 [IntKind.wrap .u8 s, IntKind.wrap .u8 (Int.fdiv s (2 ^ min (Int.toNat (8 : Int)) (IntKind.bits .i64))), IntKind.wrap .u8 (Int.fdiv s (2 ^ min (Int.toNat (16 : Int)) (IntKind.bits .i64))), IntKind.wrap .u8 (Int.fdiv s (2 ^ min (Int.toNat (24 : Int)) (IntKind.bits .i64)))]
def spec_l9Sum (b : List Int) : List Int := sum4 (SumOf b)
namespace spec_l9Sum
abbrev wf (x0 : (List Int)) : Prop := wfA [(.val zk20 .f)] (x0, ())
noncomputable def raw (x0 : (List Int)) : Option (Unit × zt17) :=
 if (decide ((0 : Int) ≤ (8 : Int))) = true then
 if (decide ((0 : Int) ≤ (16 : Int))) = true then
 if (decide ((0 : Int) ≤ (24 : Int))) = true then
 some ((), (((IntKind.wrap .u8 (SumOf x0)) :: ((IntKind.wrap .u8 (Int.fdiv (SumOf x0) (2 ^ min (Int.toNat (8 : Int)) (IntKind.bits .i64)))) :: ((IntKind.wrap .u8 (Int.fdiv (SumOf x0) (2 ^ min (Int.toNat (16 : Int)) (IntKind.bits .i64)))) :: ((IntKind.wrap .u8 (Int.fdiv (SumOf x0) (2 ^ min (Int.toNat (24 : Int)) (IntKind.bits .i64)))) :: ([] : List Int))))), ()))
 else
 none
 else
 none
 else
 none
theorem eq (x0 : List Int) (_ : wf x0) : raw x0 = some ((), (spec_l9Sum x0, ())) := by
 unfold raw
 rw [if_pos (by decide), if_pos (by decide), if_pos (by decide)]
 rfl
end spec_l9Sum
def CmdBytes (c : Cmd) : List Int :=
 if CmdOk c = true then List.append (List.append (nums [IntKind.wrap .i64 (c.1 + 1), c.2.1, c.2.2.1, c.2.2.2.1, c.2.2.2.2.1, c.2.2.2.2.2.1]) (PutText c.2.2.2.2.2.2.1)) (PutText c.2.2.2.2.2.2.2.1) else []
abbrev spec_CmdBytes := CmdBytes
theorem CmdOk_texts {c : Cmd} (h : CmdOk c = true) : c.2.2.2.2.2.2.1.length ≤ 30 ∧ c.2.2.2.2.2.2.2.1.length ≤ 30 := by
 unfold CmdOk at h
 split at h
 · simp only [Bool.and_eq_true, beq_iff_eq] at h
   obtain ⟨_, _, _, _, _, _, h1, h2⟩ := h
   rw [h1, h2]; simp
 · simp only [Bool.and_eq_true, wordsOk, decide_eq_true_eq] at h
   omega
theorem CmdBytes_len (c : Cmd) : (CmdBytes c).length ≤ 100 := by
 unfold CmdBytes
 split
 · rename_i h
   have h1 := CmdOk_texts h
   have h2 := nums_len [IntKind.wrap .i64 (c.1 + 1), c.2.1, c.2.2.1, c.2.2.2.1, c.2.2.2.2.1, c.2.2.2.2.2.1]
   have h3 := PutText_len c.2.2.2.2.2.2.1
   have h4 := PutText_len c.2.2.2.2.2.2.2.1
   simp only [List.append_eq, List.length_append, List.length_cons, List.length_nil] at *
   omega
 · simp
namespace spec_CmdBytes
abbrev wf (x0 : Cmd) : Prop := wfA [(.val zk8 .f)] (x0, ())
noncomputable def raw (x0 : Cmd) : Option (Unit × zt17) :=
 letB (CmdOk x0) fun v1 =>
 if (!v1) = true then
 some ((), (([] : List Int), ()))
 else
 if (spec_l7Nums.pre ((IntKind.wrap .i64 (x0.1 + (1 : Int))) :: (x0.2.1 :: (x0.2.2.1 :: (x0.2.2.2.1 :: (x0.2.2.2.2.1 :: (x0.2.2.2.2.2.1 :: ([] : List Int)))))))) = true then
 if (spec_PutText.pre x0.2.2.2.2.2.2.1) = true then
 letB (nums ((IntKind.wrap .i64 (x0.1 + (1 : Int))) :: (x0.2.1 :: (x0.2.2.1 :: (x0.2.2.2.1 :: (x0.2.2.2.2.1 :: (x0.2.2.2.2.2.1 :: ([] : List Int)))))))) fun v2 =>
 letB (PutText x0.2.2.2.2.2.2.1) fun v3 =>
 if (decide (List.length v2 + List.length v3 ≤ lim)) = true then
 if (spec_PutText.pre x0.2.2.2.2.2.2.2.1) = true then
 letB (PutText x0.2.2.2.2.2.2.2.1) fun v4 =>
 if (decide (List.length (List.append v2 v3) + List.length v4 ≤ lim)) = true then
 some ((), ((List.append (List.append v2 v3) v4), ()))
 else
 none
 else
 none
 else
 none
 else
 none
 else
 none
theorem eq (x0 : Cmd) (_ : wf x0) : raw x0 = some ((), (spec_CmdBytes x0, ())) := by
 unfold raw
 simp only [letB]
 by_cases h : CmdOk x0 = true
 case neg =>
  rw [if_pos (by simp [h])]
  unfold spec_CmdBytes CmdBytes
  rw [if_neg h]
 have h1 := CmdOk_texts h
 have h2 := nums_len [IntKind.wrap .i64 (x0.1 + 1), x0.2.1, x0.2.2.1, x0.2.2.2.1, x0.2.2.2.2.1, x0.2.2.2.2.2.1]
 have h3 := PutText_len x0.2.2.2.2.2.2.1
 have h4 := PutText_len x0.2.2.2.2.2.2.2.1
 simp only [List.length_cons, List.length_nil] at h2
 rw [if_neg (by simp [h]), if_pos (show spec_l7Nums.pre _ = true by simp [spec_l7Nums.pre, numsPre, small]), if_pos (show spec_PutText.pre _ = true by simp [spec_PutText.pre, txtPre]; omega),
  if_pos (by simp only [decide_eq_true_eq, lim]; omega), if_pos (show spec_PutText.pre _ = true by simp [spec_PutText.pre, txtPre]; omega), if_pos (by simp only [decide_eq_true_eq, lim, List.append_eq, List.length_append]; omega)]
 unfold spec_CmdBytes CmdBytes
 rw [if_pos h]
end spec_CmdBytes
def entB (e : Entry) : List Int := PutNum e.1 ++ CmdBytes e.2.1
def ents (xs : List Entry) : List Int := xs.flatMap entB
theorem ents_len : (xs : List Entry) → (ents xs).length ≤ 105 * xs.length
 | [] => by simp [ents]
 | a :: r => by
  have := PutNum_len a.1
  have := CmdBytes_len a.2.1
  have := ents_len r
  simp only [ents, entB, List.flatMap_cons, List.length_append, List.length_cons] at *
  omega
def headB (r : Note) : List Int := PutNum r.1 ++ PutNum r.2.1 ++ PutNum (IntKind.wrap .i64 (r.2.2.1 + 1)) ++ PutNum r.2.2.2.1 ++ PutNum (r.2.2.2.2.1.length : Int)
theorem headB_len (r : Note) : (headB r).length ≤ 25 := by
 have h1 := PutNum_len r.1
 have h2 := PutNum_len r.2.1
 have h3 := PutNum_len (IntKind.wrap .i64 (r.2.2.1 + 1))
 have h4 := PutNum_len r.2.2.2.1
 have h5 := PutNum_len (r.2.2.2.2.1.length : Int)
 simp only [headB, List.length_append]; omega
def spec_l9Body (r : Note) : List Int := headB r ++ ents r.2.2.2.2.1 ++ PutText r.2.2.2.2.2.1
def NoteBytes (r : Note) : List Int := if NoteOk r = true then PutNum (spec_l9Body r).length ++ spec_l9Body r ++ sum4 (SumOf (spec_l9Body r)) else []
abbrev spec_NoteBytes := NoteBytes
theorem NoteOk_len {r : Note} (h : NoteOk r = true) : r.2.2.2.2.1.length ≤ 40 ∧ r.2.2.2.2.2.1.length ≤ 30000 := by
 simp only [NoteOk, spec_l9List, Bool.and_eq_true, decide_eq_true_eq] at h
 omega
namespace spec_l9Body
def pre (r : Note) : Bool := decide (r.2.2.2.2.1.length ≤ 40) && decide (r.2.2.2.2.2.1.length ≤ 30000)
abbrev S := Int × (Note × (List Int × Unit))
def pre6 : S → Bool := fun s => decide (s.2.1.2.2.2.2.1.length ≤ 40) && (decide (0 ≤ s.1) && (decide (s.1.toNat ≤ s.2.1.2.2.2.2.1.length) && decide (s.2.2.1.length ≤ 25 + 105 * s.1.toNat)))
def fn6 : S → Note × (List Int × Unit) := fun s => (s.2.1, (s.2.2.1 ++ ents (s.2.1.2.2.2.2.1.drop s.1.toNat), ()))
def mu6 : S → Nat := fun s => s.2.1.2.2.2.2.1.length - s.1.toNat
noncomputable def raw6 (x1 : Int) (x2 : zt18) (x3 : (List Int)) : Option ((Int × (zt18 × zt17)) ⊕ (zt18 × zt17)) :=
 if (decide (x1 < ((List.length x2.2.2.2.2.1 : Nat) : Int))) = true then
 if (decide ((0 : Int) ≤ x1)) = true then
 if (decide (x1 < ((List.length x2.2.2.2.2.1 : Nat) : Int))) = true then
 letB (PutNum (List.getD x2.2.2.2.2.1 (Int.toNat x1) ((0 : Int), (((0 : Int), zd22), ()))).1) fun v1 =>
 if (decide (List.length x3 + List.length v1 ≤ lim)) = true then
 letB (CmdBytes (List.getD x2.2.2.2.2.1 (Int.toNat x1) ((0 : Int), (((0 : Int), zd22), ()))).2.1) fun v2 =>
 if (decide (List.length (List.append x3 v1) + List.length v2 ≤ lim)) = true then
 some (.inl ((IntKind.wrap .i64 (x1 + (1 : Int))), (x2, ((List.append (List.append x3 v1) v2), ()))))
 else
 none
 else
 none
 else
 none
 else
 none
 else
 some (.inr (x2, (x3, ())))
abbrev wf (x0 : zt18) : Prop := wfA [(.val zk26 .f)] (x0, ())
noncomputable def raw (x0 : zt18) : Option (Unit × zt17) :=
 letB (PutNum x0.1) fun v1 =>
 letB (PutNum x0.2.1) fun v2 =>
 if (decide (List.length v1 + List.length v2 ≤ lim)) = true then
 letB (PutNum (IntKind.wrap .i64 (x0.2.2.1 + (1 : Int)))) fun v3 =>
 if (decide (List.length (List.append v1 v2) + List.length v3 ≤ lim)) = true then
 letB (PutNum x0.2.2.2.1) fun v4 =>
 if (decide (List.length (List.append (List.append v1 v2) v3) + List.length v4 ≤ lim)) = true then
 letB (PutNum ((List.length x0.2.2.2.2.1 : Nat) : Int)) fun v5 =>
 if (decide (List.length (List.append (List.append (List.append v1 v2) v3) v4) + List.length v5 ≤ lim)) = true then
 if (spec_l9Body.pre6 ((0 : Int), (x0, ((List.append (List.append (List.append (List.append v1 v2) v3) v4) v5), ())))) = true then
 letB (spec_l9Body.fn6 ((0 : Int), (x0, ((List.append (List.append (List.append (List.append v1 v2) v3) v4) v5), ())))) fun v6 =>
 if (spec_PutText.pre v6.1.2.2.2.2.2.1) = true then
 letB (PutText v6.1.2.2.2.2.2.1) fun v7 =>
 if (decide (List.length v6.2.1 + List.length v7 ≤ lim)) = true then
 some ((), ((List.append v6.2.1 v7), ()))
 else
 none
 else
 none
 else
 none
 else
 none
 else
 none
 else
 none
 else
 none
theorem ok6 (x1 : Int) (x2 : Note) (x3 : List Int) (hp : pre6 (x1, (x2, (x3, ()))) = true) : Rounds pre6 mu6 fn6 (x1, (x2, (x3, ()))) (raw6 x1 x2 x3) := by
 simp only [pre6, Bool.and_eq_true, decide_eq_true_eq] at hp
 obtain ⟨h1, h2, h3, h4⟩ := hp
 unfold raw6
 by_cases hlt : x1 < (x2.2.2.2.2.1.length : Int)
 · have hn : x1.toNat < x2.2.2.2.2.1.length := by omega
   have e1 := List.drop_eq_getElem_cons hn
   have h5 := PutNum_len (x2.2.2.2.2.1[x1.toNat]).1
   have h6 := CmdBytes_len (x2.2.2.2.2.1[x1.toNat]).2.1
   simp only [letB]
   rw [if_pos (by simp [hlt]), if_pos (by simp [h2]), if_pos (by simp [hlt]), getD_get hn, if_pos (by simp only [decide_eq_true_eq, lim]; omega), if_pos (by simp only [decide_eq_true_eq, lim, List.append_eq, List.length_append]; omega), w64 (n := x1 + 1) (by omega) (by omega)]
   simp only [Rounds]
   refine ⟨?_, by simp only [mu6]; omega, ?_⟩
   · simp only [pre6, Bool.and_eq_true, decide_eq_true_eq, List.append_eq, List.length_append]; omega
   · simp only [fn6, show (x1 + 1).toNat = x1.toNat + 1 by omega, e1, ents, entB, List.flatMap_cons, List.append_eq, List.append_assoc]
 · rw [if_neg (by simp [hlt])]
   simp only [Rounds, fn6]
   rw [List.drop_eq_nil_of_le (by omega)]
   simp [ents]
theorem eq (x0 : Note) (_ : wf x0) (hp : pre x0 = true) : raw x0 = some ((), (spec_l9Body x0, ())) := by
 simp only [pre, Bool.and_eq_true, decide_eq_true_eq] at hp
 obtain ⟨h1, h2⟩ := hp
 have hh := headB_len x0
 have he := ents_len x0.2.2.2.2.1
 have ht := PutText_len x0.2.2.2.2.2.1
 simp only [headB, List.length_append] at hh
 unfold raw
 simp only [letB, List.append_eq, List.length_append]
 rw [if_pos (by simp only [decide_eq_true_eq, lim]; omega), if_pos (by simp only [decide_eq_true_eq, lim]; omega), if_pos (by simp only [decide_eq_true_eq, lim]; omega), if_pos (by simp only [decide_eq_true_eq, lim]; omega),
  if_pos (show pre6 _ = true by simp only [pre6, Bool.and_eq_true, decide_eq_true_eq, List.length_append]; omega)]
 have hf : ∀ o : List Int, fn6 ((0 : Int), (x0, (o, ()))) = (x0, (o ++ ents x0.2.2.2.2.1, ())) := fun o => rfl
 simp only [hf]
 rw [if_pos (show spec_PutText.pre _ = true by simp [spec_PutText.pre, txtPre]; omega), if_pos (by simp only [decide_eq_true_eq, lim, List.length_append]; omega)]
 rfl
end spec_l9Body
theorem body_len {r : Note} (h : r.2.2.2.2.1.length ≤ 40 ∧ r.2.2.2.2.2.1.length ≤ 30000) : (spec_l9Body r).length ≤ 40000 := by
 have hh := headB_len r
 have he := ents_len r.2.2.2.2.1
 have ht := PutText_len r.2.2.2.2.2.1
 simp only [spec_l9Body, List.length_append]; omega
namespace spec_NoteBytes
abbrev wf (x0 : zt18) : Prop := wfA [(.val zk26 .f)] (x0, ())
noncomputable def raw (x0 : zt18) : Option (Unit × zt17) :=
 letB (NoteOk x0) fun v1 =>
 if (!v1) = true then
 some ((), (([] : List Int), ()))
 else
 if (spec_l9Body.pre x0) = true then
 letB (spec_l9Body x0) fun v2 =>
 letB (PutNum ((List.length v2 : Nat) : Int)) fun v3 =>
 if (decide (List.length v3 + List.length v2 ≤ lim)) = true then
 letB (spec_l9Sum v2) fun v4 =>
 if (decide (List.length (List.append v3 v2) + List.length v4 ≤ lim)) = true then
 some ((), ((List.append (List.append v3 v2) v4), ()))
 else
 none
 else
 none
 else
 none
theorem eq (x0 : Note) (_ : wf x0) : raw x0 = some ((), (spec_NoteBytes x0, ())) := by
 unfold raw
 simp only [letB]
 by_cases h : NoteOk x0 = true
 case neg =>
  rw [if_pos (by simp [h])]
  unfold spec_NoteBytes NoteBytes
  rw [if_neg h]
 have hl := NoteOk_len h
 have hb := body_len hl
 have hp := PutNum_len ((spec_l9Body x0).length : Int)
 rw [if_neg (by simp [h]), if_pos (show spec_l9Body.pre _ = true by simp [spec_l9Body.pre]; omega), if_pos (by simp only [decide_eq_true_eq, lim]; omega),
  if_pos (by simp only [decide_eq_true_eq, lim, List.append_eq, List.length_append, spec_l9Sum, sum4, List.length_cons, List.length_nil]; omega)]
 unfold spec_NoteBytes NoteBytes
 rw [if_pos h]
 rfl
end spec_NoteBytes
def allN (ok : Nat → Bool) : Nat → Nat → Bool
 | _, 0 => true
 | i, k + 1 => ok i && allN ok (i + 1) k
theorem allN_iff {ok : Nat → Bool} : (k i : Nat) → (allN ok i k = true ↔ ∀ j, i ≤ j → j < i + k → ok j = true)
 | 0, i => by simp only [allN, true_iff]; intro j h1 h2; omega
 | k + 1, i => by
  simp only [allN, Bool.and_eq_true, allN_iff k (i + 1)]
  constructor
  · rintro ⟨h1, h2⟩ j h3 h4
    rcases Nat.lt_or_ge i j with h | h
    · exact h2 j h (by omega)
    · rw [show j = i by omega]; exact h1
  · intro h
    exact ⟨h i (Nat.le_refl _) (by omega), fun j h1 h2 => h j (by omega) (by omega)⟩
theorem allN_0 {ok : Nat → Bool} {n : Nat} : allN ok 0 n = true ↔ ∀ j, j < n → ok j = true := by
 rw [allN_iff]
 exact ⟨fun h j hj => h j (Nat.zero_le _) (by omega), fun h j _ hj => h j (by omega)⟩
section
variable {α β : Type}
def alPre (n : Nat) (i : Int) : Bool := decide (n ≤ 16777216) && (decide (0 ≤ i) && decide (i ≤ (n : Int)))
def alFn (ok : Nat → Bool) (n : Nat) (i : Int) (r : β) : (Bool × Unit) ⊕ β := cond (allN ok i.toNat (n - i.toNat)) (.inr r) (.inl (false, ()))
theorem al_facts {n : Nat} {i : Int} (h : alPre n i = true) : n ≤ 16777216 ∧ 0 ≤ i ∧ i ≤ (n : Int) := by
 simpa only [alPre, Bool.and_eq_true, decide_eq_true_eq] using h
theorem al_step {n : Nat} {i : Int} (h : alPre n i = true) (hlt : i < (n : Int)) :
 IntKind.wrap .i64 (i + 1) = i + 1 ∧ alPre n (i + 1) = true ∧ n - (i + 1).toNat < n - i.toNat ∧ (i + 1).toNat = i.toNat + 1 := by
 obtain ⟨h1, h2, h3⟩ := al_facts h
 refine ⟨w64 (by omega) (by omega), ?_, by omega, by omega⟩
 simp only [alPre, Bool.and_eq_true, decide_eq_true_eq]; omega
theorem al_prev {n : Nat} {i : Int} (h : alPre n i = true) (h0 : 0 < i) : IntKind.wrap .i64 (i - 1) = i - 1 ∧ 0 ≤ i - 1 ∧ i - 1 < (n : Int) ∧ (i - 1).toNat = i.toNat - 1 ∧ ¬ i.toNat = 0 := by
 obtain ⟨h1, h2, h3⟩ := al_facts h
 exact ⟨w64 (by omega) (by omega), by omega, by omega, by omega, by omega⟩
theorem al_next {ok : Nat → Bool} {n : Nat} {i : Int} {r : β} (h : alPre n i = true) (hlt : i < (n : Int)) (hk : ok i.toNat = true) : alFn ok n (i + 1) r = alFn ok n i r := by
 obtain ⟨h1, h2, h3⟩ := al_facts h
 unfold alFn
 rw [show n - i.toNat = (n - (i + 1).toNat) + 1 by omega, allN, hk, Bool.true_and, show (i + 1).toNat = i.toNat + 1 by omega]
theorem al_stop {ok : Nat → Bool} {n : Nat} {i : Int} {r : β} (h : alPre n i = true) (hlt : i < (n : Int)) (hk : ok i.toNat = false) : .inl (false, ()) = alFn ok n i r := by
 obtain ⟨h1, h2, h3⟩ := al_facts h
 unfold alFn
 rw [show n - i.toNat = (n - (i + 1).toNat) + 1 by omega, allN, hk]; rfl
theorem al_end {ok : Nat → Bool} {n : Nat} {i : Int} {r : β} (h : alPre n i = true) (hlt : ¬ i < (n : Int)) : .inr r = alFn ok n i r := by
 obtain ⟨h1, h2, h3⟩ := al_facts h
 unfold alFn
 rw [show n - i.toNat = 0 by omega]; rfl
theorem al_start {n : Nat} (h : n ≤ 16777216) : alPre n 0 = true := by simp [alPre, h]
theorem al_all {ok : Nat → Bool} {n : Nat} {r : β} : alFn ok n 0 r = cond (allN ok 0 n) (.inr r) (.inl (false, ())) := by simp [alFn]
end
def itOk (e : Item) : Bool := wordsOk e.2.1 && (wordsOk e.2.2.1 && (impl_within e.2.2.2.1 0 3 && impl_within e.2.2.2.2.1 0 100000))
def rowAt (x : Row) (j : Nat) : Bool := impl_within (x.2.2.1.getD j zd2).1 x.1 (IntKind.wrap .i64 (x.2.1 - 1)) && ((decide (j = 0) || decide ((x.2.2.1.getD (j - 1) zd2).1 < (x.2.2.1.getD j zd2).1)) && itOk (x.2.2.1.getD j zd2))
def RowOk (x : Row) : Bool := impl_within x.1 0 x.2.1 && (decide (x.2.1 ≤ 100000) && (decide ((x.2.2.1.length : Int) ≤ 80) && allN (rowAt x) 0 x.2.2.1.length))
abbrev spec_RowOk := RowOk
abbrev spec_l3Item := itOk
namespace spec_l3Item
def pre (e : Item) : Bool := decide (e.1 ≤ e.1)
abbrev wf (x0 : Item) : Prop := wfA [(.val (.pair (.int .i64) (.pair .str (.pair .str zk10))) .f)] (x0, ())
noncomputable def raw (x0 : Item) : Option zt28 :=
 letB (wordsOk x0.2.1) fun v1 =>
 if v1 = true then
 letB (wordsOk x0.2.2.1) fun v2 =>
 if v2 = true then
 letB (impl_within x0.2.2.2.1 (0 : Int) (3 : Int)) fun v3 =>
 if v3 = true then
 letB (impl_within x0.2.2.2.2.1 (0 : Int) (100000 : Int)) fun v4 =>
 some ((), (v4, ()))
 else
 some ((), (false, ()))
 else
 some ((), (false, ()))
 else
 some ((), (false, ()))
theorem eq (x0 : Item) (_ : wf x0) (_ : pre x0 = true) : raw x0 = some ((), (spec_l3Item x0, ())) := by
 unfold raw
 show _ = some ((), (itOk x0, ()))
 unfold itOk
 simp only [letB]
 cases wordsOk x0.2.1 <;> cases wordsOk x0.2.2.1 <;> cases impl_within x0.2.2.2.1 0 3 <;> simp
end spec_l3Item
namespace spec_RowOk
abbrev S2 : Type := (Int × (Row × Unit))
abbrev O2 : Type := ((Bool × Unit) ⊕ (Row × Unit))
def pre (x : Row) : Bool := small x.2.2.1
def pre2 : S2 → Bool := fun (x1, x2, _) => alPre x2.2.2.1.length x1
def fn2 : S2 → O2 := fun (x1, x2, _) => alFn (rowAt x2) x2.2.2.1.length x1 (x2, ())
def mu2 : S2 → Nat := fun (x1, x2, _) => x2.2.2.1.length - x1.toNat
noncomputable def raw2 (x1 : Int) (x2 : Row) : Option ((Int × (Row × Unit)) ⊕ ((Bool × Unit) ⊕ (Row × Unit))) :=
 if (decide (x1 < ((List.length x2.2.2.1 : Nat) : Int))) = true then
 if (decide ((0 : Int) ≤ x1)) = true then
 if (decide (x1 < ((List.length x2.2.2.1 : Nat) : Int))) = true then
 if (spec_l3Item.pre (List.getD x2.2.2.1 (Int.toNat x1) zd2)) = true then
 letB (itOk (List.getD x2.2.2.1 (Int.toNat x1) zd2)) fun v1 =>
 if (!v1) = true then
 some (.inr (.inl (false, ())))
 else
 if (decide ((0 : Int) ≤ x1)) = true then
 if (decide (x1 < ((List.length x2.2.2.1 : Nat) : Int))) = true then
 letB (impl_within (List.getD x2.2.2.1 (Int.toNat x1) zd2).1 x2.1 (IntKind.wrap .i64 (x2.2.1 - (1 : Int)))) fun v2 =>
 if (!v2) = true then
 some (.inr (.inl (false, ())))
 else
 if (decide ((0 : Int) < x1)) = true then
 if (decide ((0 : Int) ≤ (IntKind.wrap .i64 (x1 - (1 : Int))))) = true then
 if (decide ((IntKind.wrap .i64 (x1 - (1 : Int))) < ((List.length x2.2.2.1 : Nat) : Int))) = true then
 if (decide ((0 : Int) ≤ x1)) = true then
 if (decide (x1 < ((List.length x2.2.2.1 : Nat) : Int))) = true then
 if (decide ((List.getD x2.2.2.1 (Int.toNat x1) zd2).1 ≤ (List.getD x2.2.2.1 (Int.toNat (IntKind.wrap .i64 (x1 - (1 : Int)))) zd2).1)) = true then
 some (.inr (.inl (false, ())))
 else
 some (.inl ((IntKind.wrap .i64 (x1 + (1 : Int))), (x2, ())))
 else
 none
 else
 none
 else
 none
 else
 none
 else
 some (.inl ((IntKind.wrap .i64 (x1 + (1 : Int))), (x2, ())))
 else
 none
 else
 none
 else
 none
 else
 none
 else
 none
 else
 some (.inr (.inr (x2, ())))
abbrev wf (x0 : Row) : Prop := wfA [(.val zk19 .f)] (x0, ())
noncomputable def raw (x0 : Row) : Option zt28 :=
 if (spec_RowOk.pre2 ((0 : Int), (x0, ()))) = true then
  letB (spec_RowOk.fn2 ((0 : Int), (x0, ()))) fun v1 =>
  match v1 with
  | .inl y =>
   some ((), y)
  | .inr y =>
   letB (impl_within y.1.1 (0 : Int) y.1.2.1) fun v2 =>
   if v2 = true then
    if (decide (y.1.2.1 ≤ (100000 : Int))) = true then
     some ((), ((decide (((List.length y.1.2.2.1 : Nat) : Int) ≤ (80 : Int))), ()))
    else
     some ((), (false, ()))
   else
    some ((), (false, ()))
 else
  none
theorem ok2 (x1 : Int) (x2 : Row) (ha : pre2 (x1, (x2, ())) = true) : Rounds pre2 mu2 fn2 (x1, (x2, ())) (raw2 x1 x2) := by
 have ha : alPre x2.2.2.1.length x1 = true := ha
 obtain ⟨h1, h2, h3⟩ := al_facts ha
 unfold raw2
 by_cases hlt : x1 < (x2.2.2.1.length : Int)
 · obtain ⟨n1, n2, n3, n4⟩ := al_step ha hlt
   have nxt : rowAt x2 x1.toNat = true → Rounds pre2 mu2 fn2 (x1, (x2, ())) (some (.inl (x1 + 1, (x2, ())))) := fun h => ⟨n2, n3, al_next ha hlt h⟩
   have stp : rowAt x2 x1.toNat = false → Rounds pre2 mu2 fn2 (x1, (x2, ())) (some (.inr (.inl (false, ())))) := fun h => al_stop ha hlt h
   simp only [letB, n1, hlt, h2, decide_true, if_true, show spec_l3Item.pre (x2.2.2.1.getD x1.toNat zd2) = true from decide_eq_true (Int.le_refl _)]
   by_cases h0 : 0 < x1
   · obtain ⟨p1, p2, p3, p4, p5⟩ := al_prev ha h0
     simp only [p1, p2, p3, p4, h0, decide_true, if_true]
     simp only [rowAt, p5, decide_false, Bool.false_or] at nxt stp
     generalize x2.2.2.1.getD x1.toNat zd2 = e at *
     generalize x2.2.2.1.getD (x1.toNat - 1) zd2 = e' at *
     generalize impl_within e.1 x2.1 (IntKind.wrap .i64 (x2.2.1 - 1)) = b1 at *
     generalize itOk e = b2 at *
     by_cases hd : e.1 ≤ e'.1
     · simp only [hd, show ¬ e'.1 < e.1 by omega, decide_true, decide_false, if_true] at *
       cases b1 <;> cases b2 <;> exact stp rfl
     · simp only [hd, show e'.1 < e.1 by omega, decide_true, decide_false] at *
       cases b1 <;> cases b2
       · exact stp rfl
       · exact stp rfl
       · exact stp rfl
       · exact nxt rfl
   · have p5 : x1.toNat = 0 := by omega
     simp only [h0, decide_false, Bool.false_eq_true, if_false]
     simp only [rowAt, p5, decide_true, Bool.true_or, Bool.true_and] at nxt stp ⊢
     generalize x2.2.2.1.getD 0 zd2 = e at *
     generalize impl_within e.1 x2.1 (IntKind.wrap .i64 (x2.2.1 - 1)) = b1 at *
     generalize itOk e = b2 at *
     cases b1 <;> cases b2
     · exact stp rfl
     · exact stp rfl
     · exact stp rfl
     · exact nxt rfl
 · rw [if_neg (by simp [hlt])]
   exact al_end ha hlt
theorem eq (x0 : Row) (_ : wf x0) (hp : pre x0 = true) : raw x0 = some ((), (spec_RowOk x0, ())) := by
 have hs := small_iff.1 hp
 unfold raw spec_RowOk RowOk
 rw [if_pos (show pre2 ((0 : Int), (x0, ())) = true from al_start hs), show fn2 ((0 : Int), (x0, ())) = _ from al_all]
 simp only [letB]
 cases allN (rowAt x0) 0 x0.2.2.1.length
 · simp
 simp only [cond_true]
 cases impl_within x0.1 0 x0.2.1 <;> cases decide (x0.2.1 ≤ 100000) <;> cases decide ((x0.2.2.1.length : Int) ≤ 80) <;> rfl
end spec_RowOk
def impl_isClient (n : Int) : Bool := impl_within n 0 3
def impl_allWithin (xs : List Int) (lo hi : Int) : Bool := xs.all fun n => impl_within n lo hi
def AnswerOk (a : Answer) : Bool := impl_within a.1 0 9 && (impl_within a.2.1 (-1) 100000 && (wordsOk a.2.2.1 && wordsOk a.2.2.2.1))
abbrev isClient := impl_isClient
def memAt (xs : List Int) (j : Nat) : Bool := isClient (xs.getD j (0 : Int)) && (decide (j = 0) || decide (xs.getD (j - 1) (0 : Int) < xs.getD j (0 : Int)))
def GroupOk (g : Group) (rows : Int) : Bool := decide ((g.2.2.1.length : Int) = (g.2.1.length : Int)) && (decide ((g.2.2.2.1.length : Int) = rows) && (impl_within g.1 0 100000 && (allN (memAt g.2.1) 0 g.2.1.length && (impl_allWithin g.2.2.1 0 100000 && impl_allWithin g.2.2.2.1 0 100000))))
def keepS (x : Keep) : Bool := small x.1 && (x.1.all (fun r : Row => small r.2.2.1) && (small x.2.1 && (x.2.1.all (fun m : Maker => small m.2.2.2.2.1) && (small x.2.2.1 && (x.2.2.1.all groupS && (small x.2.2.2.2.1 && small x.2.2.2.2.2.1))))))
def DiskOk (d : Disk) : Bool := decide ((d.1.length : Int) ≤ 80000) && impl_within d.2.1 0 (d.1.length : Int)
abbrev impl_DiskOk := DiskOk
abbrev spec_DiskOk := DiskOk
namespace impl_DiskOk
def pre (_ : Disk) : Bool := true
abbrev wf (x0 : Disk) : Prop := wfA [(.val zk25 .f)] (x0, ())
noncomputable def raw (x0 : Disk) : Option zt28 :=
 if (decide (((List.length x0.1 : Nat) : Int) ≤ (80000 : Int))) = true then
 letB (impl_within x0.2.1 (0 : Int) ((List.length x0.1 : Nat) : Int)) fun v1 =>
 some ((), (v1, ()))
 else
 some ((), (false, ()))
theorem eq (x0 : Disk) (_ : wf x0) (_ : pre x0 = true) : raw x0 = some ((), (impl_DiskOk x0, ())) := by
 unfold raw impl_DiskOk DiskOk
 cases decide ((x0.1.length : Int) ≤ 80000) <;> rfl
end impl_DiskOk
namespace spec_DiskOk
def pre (_ : Disk) : Bool := true
abbrev wf (x0 : Disk) : Prop := wfA [(.val zk25 .f)] (x0, ())
noncomputable def raw (x0 : Disk) : Option zt28 :=
 if (decide (((List.length x0.1 : Nat) : Int) ≤ (80000 : Int))) = true then
 letB (impl_within x0.2.1 (0 : Int) ((List.length x0.1 : Nat) : Int)) fun v1 =>
 some ((), (v1, ()))
 else
 some ((), (false, ()))
theorem eq (x0 : Disk) (_ : wf x0) (_ : pre x0 = true) : raw x0 = some ((), (spec_DiskOk x0, ())) := by
 unfold raw spec_DiskOk DiskOk
 cases decide ((x0.1.length : Int) ≤ 80000) <;> rfl
end spec_DiskOk
def Wp {α : Type} (m : Option α) (Q : α → Prop) : Prop := ∃ a, m = some a ∧ Q a
section
variable {α β : Type} {Q : α → Prop}
theorem W_some {a : α} (h : Q a) : Wp (some a) Q := ⟨a, rfl, h⟩
theorem W_if {c : Prop} [Decidable c] {A B : Option α} (h : c) (r : Wp A Q) : Wp (if c then A else B) Q := by rw [if_pos h]; exact r
theorem W_else {c : Prop} [Decidable c] {A B : Option α} (h : ¬ c) (r : Wp B Q) : Wp (if c then A else B) Q := by rw [if_neg h]; exact r
theorem W_ite {c : Prop} [Decidable c] {A B : Option α} (h1 : c → Wp A Q) (h2 : ¬ c → Wp B Q) : Wp (if c then A else B) Q := by
 by_cases h : c
 · exact W_if h (h1 h)
 · exact W_else h (h2 h)
theorem W_let {a : β} {f : β → Option α} (r : Wp (f a) Q) : Wp (letB a f) Q := r
theorem W_fact {P : β → Prop} {a : β} {f : β → Option α} (h : P a) (r : ∀ b, P b → Wp (f b) Q) : Wp (letB a f) Q := r a h
def got [Inhabited α] (m : Option α) : α := m.getD default
theorem got_eq [Inhabited α] {m : Option α} (h : Wp m Q) : m = some (got m) ∧ Q (got m) := by
 obtain ⟨a, rfl, h⟩ := h
 exact ⟨rfl, h⟩
end
section
variable {S O : Type} [Inhabited O]
noncomputable def iter (raw : S → Option (S ⊕ O)) : Nat → S → O
 | 0, _ => default
 | n + 1, s => match raw s with
  | some (.inl t) => iter raw n t
  | some (.inr o) => o
  | none => default
noncomputable def runF (raw : S → Option (S ⊕ O)) (mu : S → Nat) (s : S) : O := iter raw (mu s + 1) s
def Step (pre : S → Bool) (mu : S → Nat) (Q : S → O → Prop) (s : S) (r : S ⊕ O) : Prop := match r with
 | .inl t => pre t = true ∧ mu t < mu s ∧ ∀ o, Q t o → Q s o
 | .inr o => Q s o
variable {pre : S → Bool} {mu : S → Nat} {Q : S → O → Prop} {raw : S → Option (S ⊕ O)}
theorem iter_fuel (h : ∀ s, pre s = true → Wp (raw s) (Step pre mu Q s)) : (n m : Nat) → (s : S) → pre s = true → mu s < n → mu s < m → iter raw n s = iter raw m s
 | n + 1, m + 1, s, hp, h1, h2 => by
  obtain ⟨r, e, hr⟩ := h s hp
  simp only [iter, e]
  cases r with
  | inl t => exact iter_fuel h n m t hr.1 (by have := hr.2.1; omega) (by have := hr.2.1; omega)
  | inr o => rfl
 | 0, _, _, _, h1, _ => by omega
 | _ + 1, 0, _, _, _, h2 => by omega
theorem iter_q (h : ∀ s, pre s = true → Wp (raw s) (Step pre mu Q s)) : (n : Nat) → (s : S) → pre s = true → mu s < n → Q s (iter raw n s)
 | n + 1, s, hp, h1 => by
  obtain ⟨r, e, hr⟩ := h s hp
  simp only [iter, e]
  cases r with
  | inl t => exact hr.2.2 _ (iter_q h n t hr.1 (by have := hr.2.1; omega))
  | inr o => exact hr
 | 0, _, _, h1 => by omega
theorem runF_q (h : ∀ s, pre s = true → Wp (raw s) (Step pre mu Q s)) {s : S} (hp : pre s = true) : Q s (runF raw mu s) := iter_q h _ s hp (Nat.lt_succ_self _)
theorem runF_ok (h : ∀ s, pre s = true → Wp (raw s) (Step pre mu Q s)) {s : S} (hp : pre s = true) : Rounds pre mu (runF raw mu) s (raw s) := by
 obtain ⟨r, e, hr⟩ := h s hp
 rw [e]
 cases r with
 | inl t =>
  refine ⟨hr.1, hr.2.1, ?_⟩
  show iter raw _ t = iter raw (mu s + 1) s
  simp only [iter, e]
  exact iter_fuel h _ _ t hr.1 (Nat.lt_succ_self _) hr.2.1
 | inr o =>
  show o = iter raw (mu s + 1) s
  simp only [iter, e]
end
section
variable {S A B : Type} [Inhabited A]
noncomputable def runS (raw : S → Option (S ⊕ (A ⊕ B))) (mu : S → Nat) (s : S) : A ⊕ B := @runF S (A ⊕ B) ⟨.inl default⟩ raw mu s
variable {pre : S → Bool} {mu : S → Nat} {Q : S → (A ⊕ B) → Prop} {raw : S → Option (S ⊕ (A ⊕ B))}
theorem runS_q (h : ∀ s, pre s = true → Wp (raw s) (Step pre mu Q s)) {s : S} (hp : pre s = true) : Q s (runS raw mu s) := @runF_q S (A ⊕ B) ⟨.inl default⟩ pre mu Q raw h s hp
theorem runS_ok (h : ∀ s, pre s = true → Wp (raw s) (Step pre mu Q s)) {s : S} (hp : pre s = true) : Rounds pre mu (runS raw mu) s (raw s) := @runF_ok S (A ⊕ B) ⟨.inl default⟩ pre mu Q raw h s hp
end
abbrev Cur : Type := List Int × Mark
def curB (c : Cur) : Bool := decide (0 ≤ c.2.1) && decide (c.1.length ≤ 16777216)
theorem curB_iff {c : Cur} : curB c = true ↔ 0 ≤ c.2.1 ∧ c.1.length ≤ 16777216 := by simp only [curB, Bool.and_eq_true, decide_eq_true_eq]
def dP {α : Type} (Q : α → Prop) (v : Cur × α) : Prop := curB v.1 = true ∧ Q v.2
theorem and255 (x : Int) : 0 ≤ intBits .and .i64 x 255 ∧ intBits .and .i64 x 255 ≤ 255 := by
 have h : (intBits .and .i64 x 255) = IntKind.wrap .i64 (((BitVec.ofInt 64 x) &&& (BitVec.ofInt 64 255)).toNat : Int) := rfl
 rw [h, BitVec.toNat_and, ofInt_nat (x := 255) (by omega) (by decide)]
 have h2 : (BitVec.ofInt 64 x).toNat &&& Int.toNat 255 = (BitVec.ofInt 64 x).toNat % 256 := Nat.and_two_pow_sub_one_eq_mod _ 8
 rw [h2, w64 (by omega) (by omega)]
 omega
def rangeP (lo hi : Int) (n : Int) : Prop := lo ≤ n ∧ n ≤ hi
namespace spec_l1New
abbrev S3 : Type := zt11
abbrev O3 : Type := Disk
def pre3 : S3 → Bool := fun (x1, _, x3, _) => decide (0 ≤ x3) && decide (x1.length ≤ 16777216)
def mu3 : S3 → Nat := fun (x1, _, x3, _) => x1.length - x3.toNat
noncomputable def raw3 (x1 : (List Int)) (x2 : Int) (x3 : Int) : Option (zt11 ⊕ Disk) :=
 if (decide (x3 < ((List.length x1 : Nat) : Int))) = true then
 if (decide (x3 < (4000 : Int))) = true then
 if (decide ((0 : Int) ≤ x3)) = true then
 if (decide (x3 < ((List.length x1 : Nat) : Int))) = true then
 some (.inl (x1, ((intBits .and .i64 (IntKind.wrap .i64 ((IntKind.wrap .i64 ((IntKind.wrap .i64 (x2 * (131 : Int))) + (IntKind.wrap .i64 (List.getD x1 (Int.toNat x3) (0 : Int))))) + (7 : Int))) (1073741823 : Int)), ((IntKind.wrap .i64 (x3 + (1 : Int))), ()))))
 else
 none
 else
 none
 else
 some (.inr (x1, (x2, ())))
 else
 some (.inr (x1, (x2, ())))
theorem wp3 : ∀ s, pre3 s = true → Wp ((fun (x : S3) => raw3 x.1 x.2.1 x.2.2.1) s) (Step pre3 mu3 (fun _ (o : O3) => o.1.length ≤ 16777216) s) := by
 rintro ⟨x1, x2, x3, ⟨⟩⟩ hp
 simp only [pre3, Bool.and_eq_true, decide_eq_true_eq] at hp
 show Wp (raw3 x1 x2 x3) _
 unfold raw3
 refine W_ite (fun h1 => W_ite (fun h2 => ?_) fun _ => W_some hp.2) fun _ => W_some hp.2
 rw [decide_eq_true_eq] at h1 h2
 refine W_if (decide_eq_true hp.1) (W_if (decide_eq_true h1) (W_some ?_))
 refine ⟨?_, ?_, fun o h => h⟩
 · simp only [pre3, Bool.and_eq_true, decide_eq_true_eq, w64 (n := x3 + 1) (by omega) (by omega)]; omega
 · simp only [mu3, w64 (n := x3 + 1) (by omega) (by omega)]; omega
noncomputable def fn3 : S3 → O3 := runF (fun (x : S3) => raw3 x.1 x.2.1 x.2.2.1) mu3
theorem ok3 (x1 : List Int) (x2 x3 : Int) (hp : pre3 (x1, (x2, (x3, ()))) = true) : Rounds pre3 mu3 fn3 (x1, (x2, (x3, ()))) (raw3 x1 x2 x3) := runF_ok wp3 hp
def pre (x : List Int) : Bool := small x
abbrev wf (x0 : (List Int)) : Prop := wfA [(.val zk20 .f)] (x0, ())
noncomputable def raw (x0 : (List Int)) : Option (Unit × (zt11 × Unit)) :=
 if (spec_l1New.pre3 (x0, ((IntKind.wrap .i64 ((24548 : Int) + ((List.length x0 : Nat) : Int))), ((0 : Int), ())))) = true then
 letB (spec_l1New.fn3 (x0, ((IntKind.wrap .i64 ((24548 : Int) + ((List.length x0 : Nat) : Int))), ((0 : Int), ())))) fun v1 =>
 some ((), ((v1.1, ((0 : Int), v1.2)), ()))
 else
 none
theorem wp (x0 : List Int) (hp : pre x0 = true) : Wp (raw x0) (fun r => curB r.2.1 = true) := by
 have hs := small_iff.1 hp
 unfold raw
 have h3 : pre3 (x0, ((IntKind.wrap .i64 ((24548 : Int) + (x0.length : Int))), ((0 : Int), ()))) = true := by
  simp only [pre3, Bool.and_eq_true, decide_eq_true_eq]; omega
 refine W_if h3 (W_fact (P := fun o : O3 => o.1.length ≤ 16777216) (runF_q wp3 h3) fun v hv => W_some ?_)
 rw [curB_iff]
 exact ⟨Int.le_refl _, hv⟩
noncomputable def val (x0 : List Int) : Cur := (got (raw x0)).2.1
theorem eq (x0 : List Int) (_ : wf x0) (hp : pre x0 = true) : raw x0 = some ((), (val x0, ())) := (got_eq (wp x0 hp)).1
end spec_l1New
noncomputable def spec_l1New (x0 : List Int) : Cur := spec_l1New.val x0
theorem spec_l1New_sp {x0 : List Int} (hp : small x0 = true) : curB (spec_l1New x0) = true := (got_eq (spec_l1New.wp x0 hp)).2
namespace spec_l1Byte
def pre (c : Cur) : Bool := curB c
abbrev wf (x0 : zt11) : Prop := wfA [(.ref zk31 .f)] (x0, ())
noncomputable def raw (x0 : zt11) : Option ((zt11 × Unit) × (Int × Unit)) :=
 if (decide ((0 : Int) ≤ (33 : Int))) = true then
 if (decide ((0 : Int) ≤ (45 : Int))) = true then
 if (decide (x0.2.1 < ((List.length x0.1 : Nat) : Int))) = true then
 if (decide ((0 : Int) ≤ x0.2.1)) = true then
 if (decide (x0.2.1 < ((List.length x0.1 : Nat) : Int))) = true then
 some (((x0.1, ((IntKind.wrap .i64 (x0.2.1 + (1 : Int))), ((IntKind.wrap .i64 ((IntKind.wrap .i64 (x0.2.2.1 * (6364136223846793005 : Int))) + (1442695040888963407 : Int))), x0.2.2.2))), ()), ((intBits .and .i64 (IntKind.wrap .i64 ((intBits .and .i64 (intBits .xor .i64 (Int.fdiv (IntKind.wrap .i64 ((IntKind.wrap .i64 (x0.2.2.1 * (6364136223846793005 : Int))) + (1442695040888963407 : Int))) (2 ^ min (Int.toNat (33 : Int)) (IntKind.bits .i64))) (Int.fdiv (IntKind.wrap .i64 ((IntKind.wrap .i64 (x0.2.2.1 * (6364136223846793005 : Int))) + (1442695040888963407 : Int))) (2 ^ min (Int.toNat (45 : Int)) (IntKind.bits .i64)))) (255 : Int)) + (IntKind.wrap .i64 (List.getD x0.1 (Int.toNat x0.2.1) (0 : Int))))) (255 : Int)), ()))
 else
 none
 else
 none
 else
 some (((x0.1, (x0.2.1, ((IntKind.wrap .i64 ((IntKind.wrap .i64 (x0.2.2.1 * (6364136223846793005 : Int))) + (1442695040888963407 : Int))), x0.2.2.2))), ()), ((intBits .and .i64 (intBits .xor .i64 (Int.fdiv (IntKind.wrap .i64 ((IntKind.wrap .i64 (x0.2.2.1 * (6364136223846793005 : Int))) + (1442695040888963407 : Int))) (2 ^ min (Int.toNat (33 : Int)) (IntKind.bits .i64))) (Int.fdiv (IntKind.wrap .i64 ((IntKind.wrap .i64 (x0.2.2.1 * (6364136223846793005 : Int))) + (1442695040888963407 : Int))) (2 ^ min (Int.toNat (45 : Int)) (IntKind.bits .i64)))) (255 : Int)), ()))
 else
 none
 else
 none
theorem wp (x0 : Cur) (hp : pre x0 = true) : Wp (raw x0) (fun r => dP (rangeP 0 255) (r.1.1, r.2.1)) := by
 have hc := curB_iff.1 hp
 unfold raw
 refine W_if (by decide) (W_if (by decide) (W_ite (fun h => ?_) fun _ => W_some ⟨?_, and255 _⟩))
 · rw [decide_eq_true_eq] at h
   refine W_if (decide_eq_true hc.1) (W_if (decide_eq_true h) (W_some ⟨?_, and255 _⟩))
   show curB _ = true
   rw [curB_iff]
   have := w64 (n := x0.2.1 + 1) (by omega) (by omega)
   exact ⟨by show 0 ≤ IntKind.wrap .i64 (x0.2.1 + 1); omega, hc.2⟩
 · show curB _ = true
   rw [curB_iff]; exact hc
noncomputable def val (x0 : Cur) : Cur × Int := ((got (raw x0)).1.1, (got (raw x0)).2.1)
theorem eq (x0 : Cur) (_ : wf x0) (hp : pre x0 = true) : raw x0 = some (((val x0).1, ()), ((val x0).2, ())) := (got_eq (wp x0 hp)).1
end spec_l1Byte
noncomputable def spec_l1Byte (x0 : Cur) : Cur × Int := spec_l1Byte.val x0
theorem spec_l1Byte_sp {x0 : Cur} (hp : curB x0 = true) : dP (rangeP 0 255) (spec_l1Byte x0) := (got_eq (spec_l1Byte.wp x0 hp)).2
def belowP (n : Int) (r : Int) : Prop := 0 ≤ r ∧ (0 < n → r < n)
namespace spec_l1Below
def pre (c : Cur) (_ : Int) : Bool := curB c
abbrev wf (x0 : zt11) (x1 : Int) : Prop := wfA [(.ref zk31 .f), (.val (.int .i64) .f)] (x0, (x1, ()))
noncomputable def raw (x0 : zt11) (x1 : Int) : Option ((zt11 × Unit) × (Int × Unit)) :=
 if (decide (x1 ≤ (0 : Int))) = true then
 some ((x0, ()), ((0 : Int), ()))
 else
 if (decide (x1 ≤ (256 : Int))) = true then
 if (spec_l1Byte.pre x0) = true then
 if (!(decide (x1 = (0 : Int)))) = true then
 letB (spec_l1Byte x0) fun v1 =>
 some ((v1.1, ()), ((Int.tmod v1.2 x1), ()))
 else
 none
 else
 none
 else
 if (spec_l1Byte.pre x0) = true then
 letB (spec_l1Byte x0) fun v2 =>
 if (spec_l1Byte.pre v2.1) = true then
 letB (spec_l1Byte v2.1) fun v3 =>
 if (spec_l1Byte.pre v3.1) = true then
 letB (spec_l1Byte v3.1) fun v4 =>
 if (spec_l1Byte.pre v4.1) = true then
 if (!(decide (x1 = (0 : Int)))) = true then
 letB (spec_l1Byte v4.1) fun v5 =>
 some ((v5.1, ()), ((Int.tmod (IntKind.wrap .i64 ((IntKind.wrap .i64 ((IntKind.wrap .i64 ((IntKind.wrap .i64 (v2.2 * (16777216 : Int))) + (IntKind.wrap .i64 (v3.2 * (65536 : Int))))) + (IntKind.wrap .i64 (v4.2 * (256 : Int))))) + v5.2)) x1), ()))
 else
 none
 else
 none
 else
 none
 else
 none
 else
 none
theorem tmod_below {a n : Int} (h : 0 ≤ a) (hn : 0 < n) : belowP n (Int.tmod a n) := ⟨Int.tmod_nonneg _ h, fun _ => Int.tmod_lt_of_pos _ hn⟩
theorem wp (x0 : Cur) (x1 : Int) (hp : pre x0 x1 = true) : Wp (raw x0 x1) (fun r => dP (belowP x1) (r.1.1, r.2.1)) := by
 unfold raw
 have hp : curB x0 = true := hp
 refine W_ite (fun h => ?_) fun h => ?_
 · rw [decide_eq_true_eq] at h
   exact W_some ⟨hp, Int.le_refl _, fun h2 => by omega⟩
 rw [decide_eq_true_eq] at h
 have hn : (!decide (x1 = 0)) = true := by simp; omega
 have p : ∀ {c : Cur}, curB c = true → spec_l1Byte.pre c = true := fun h => h
 refine W_ite (fun h2 => ?_) fun h2 => ?_
 · exact W_if (p hp) (W_if hn (W_fact (spec_l1Byte_sp hp) fun v hv => W_some ⟨hv.1, tmod_below hv.2.1 (by omega)⟩))
 · refine W_if (p hp) (W_fact (spec_l1Byte_sp hp) fun a ha => W_if (p ha.1) (W_fact (spec_l1Byte_sp ha.1) fun b hb => W_if (p hb.1) (W_fact (spec_l1Byte_sp hb.1) fun c hc => W_if (p hc.1) (W_if hn (W_fact (spec_l1Byte_sp hc.1) fun d hd => W_some ⟨hd.1, tmod_below ?_ (by omega)⟩)))))
   have a1 := ha.2; have b1 := hb.2; have c1 := hc.2; have d1 := hd.2
   simp only [rangeP] at a1 b1 c1 d1
   rw [w64 (n := a.2 * 16777216) (by omega) (by omega), w64 (n := b.2 * 65536) (by omega) (by omega), w64 (n := c.2 * 256) (by omega) (by omega), w64 (n := a.2 * 16777216 + b.2 * 65536) (by omega) (by omega), w64 (n := a.2 * 16777216 + b.2 * 65536 + c.2 * 256) (by omega) (by omega), w64 (by omega) (by omega)]
   omega
noncomputable def val (x0 : Cur) (x1 : Int) : Cur × Int := ((got (raw x0 x1)).1.1, (got (raw x0 x1)).2.1)
theorem eq (x0 : Cur) (x1 : Int) (_ : wf x0 x1) (hp : pre x0 x1 = true) : raw x0 x1 = some (((val x0 x1).1, ()), ((val x0 x1).2, ())) := (got_eq (wp x0 x1 hp)).1
end spec_l1Below
noncomputable def spec_l1Below (x0 : Cur) (x1 : Int) : Cur × Int := spec_l1Below.val x0 x1
theorem spec_l1Below_sp {x0 : Cur} {x1 : Int} (hp : curB x0 = true) : dP (belowP x1) (spec_l1Below x0 x1) := (got_eq (spec_l1Below.wp x0 x1 hp)).2
namespace spec_l1Once
def pre (c : Cur) (_ : Int) : Bool := curB c
abbrev wf (x0 : zt11) (x1 : Int) : Prop := wfA [(.ref zk31 .f), (.val (.int .i64) .f)] (x0, (x1, ()))
noncomputable def raw (x0 : zt11) (x1 : Int) : Option ((zt11 × Unit) × (Bool × Unit)) :=
 if (spec_l1Below.pre x0 x1) = true then
 letB (spec_l1Below x0 x1) fun v1 =>
 some ((v1.1, ()), ((decide (v1.2 = (0 : Int))), ()))
 else
 none
theorem wp (x0 : Cur) (x1 : Int) (hp : pre x0 x1 = true) : Wp (raw x0 x1) (fun r => dP (fun _ => True) (r.1.1, r.2.1)) := by
 unfold raw
 exact W_if (show spec_l1Below.pre x0 x1 = true from hp) (W_fact (spec_l1Below_sp hp) fun v hv => W_some ⟨hv.1, trivial⟩)
noncomputable def val (x0 : Cur) (x1 : Int) : Cur × Bool := ((got (raw x0 x1)).1.1, (got (raw x0 x1)).2.1)
theorem eq (x0 : Cur) (x1 : Int) (_ : wf x0 x1) (hp : pre x0 x1 = true) : raw x0 x1 = some (((val x0 x1).1, ()), ((val x0 x1).2, ())) := (got_eq (wp x0 x1 hp)).1
end spec_l1Once
noncomputable def spec_l1Once (x0 : Cur) (x1 : Int) : Cur × Bool := spec_l1Once.val x0 x1
theorem spec_l1Once_sp {x0 : Cur} {x1 : Int} (hp : curB x0 = true) : dP (fun _ => True) (spec_l1Once x0 x1) := (got_eq (spec_l1Once.wp x0 x1 hp)).2
namespace spec_l1PickInt
def pre (c : Cur) (l : List Int) : Bool := curB c && decide (0 < l.length)
abbrev wf (x0 : zt11) (x1 : (List Int)) : Prop := wfA [(.ref zk31 .f), (.val (.sl 0 (.int .i64)) .o)] (x0, (x1, ()))
noncomputable def raw (x0 : zt11) (x1 : (List Int)) : Option ((zt11 × Unit) × (Int × Unit)) :=
 if (spec_l1Below.pre x0 ((List.length x1 : Nat) : Int)) = true then
 letB (spec_l1Below x0 ((List.length x1 : Nat) : Int)) fun v1 =>
 if (decide ((0 : Int) ≤ v1.2)) = true then
 if (decide (v1.2 < ((List.length x1 : Nat) : Int))) = true then
 some ((v1.1, ()), ((List.getD x1 (Int.toNat v1.2) (0 : Int)), ()))
 else
 none
 else
 none
 else
 none
theorem wp (x0 : Cur) (x1 : List Int) (hp : pre x0 x1 = true) : Wp (raw x0 x1) (fun r => dP (fun n => n ∈ x1) (r.1.1, r.2.1)) := by
 unfold raw
 simp only [pre, Bool.and_eq_true, decide_eq_true_eq] at hp
 refine W_if (show spec_l1Below.pre x0 _ = true from hp.1) (W_fact (spec_l1Below_sp hp.1) fun v hv => ?_)
 have h1 := hv.2.1
 have h2 := hv.2.2 (by omega)
 refine W_if (decide_eq_true h1) (W_if (decide_eq_true h2) (W_some ⟨hv.1, ?_⟩))
 show x1.getD v.2.toNat 0 ∈ x1
 rw [getD_get (by omega)]
 exact List.getElem_mem _
noncomputable def val (x0 : Cur) (x1 : List Int) : Cur × Int := ((got (raw x0 x1)).1.1, (got (raw x0 x1)).2.1)
theorem eq (x0 : Cur) (x1 : List Int) (_ : wf x0 x1) (hp : pre x0 x1 = true) : raw x0 x1 = some (((val x0 x1).1, ()), ((val x0 x1).2, ())) := (got_eq (wp x0 x1 hp)).1
end spec_l1PickInt
noncomputable def spec_l1PickInt (x0 : Cur) (x1 : List Int) : Cur × Int := spec_l1PickInt.val x0 x1
theorem spec_l1PickInt_sp {x0 : Cur} {x1 : List Int} (hp : spec_l1PickInt.pre x0 x1 = true) : dP (fun n => n ∈ x1) (spec_l1PickInt x0 x1) := (got_eq (spec_l1PickInt.wp x0 x1 hp)).2
namespace spec_l1Pick
def pre (c : Cur) (l : List (List UInt8)) : Bool := curB c && decide (0 < l.length)
abbrev wf (x0 : zt11) (x1 : (List (List UInt8))) : Prop := wfA [(.ref zk31 .f), (.val (.sl 0 .str) .o)] (x0, (x1, ()))
noncomputable def raw (x0 : zt11) (x1 : (List (List UInt8))) : Option ((zt11 × Unit) × ((List UInt8) × Unit)) :=
 if (spec_l1Below.pre x0 ((List.length x1 : Nat) : Int)) = true then
 letB (spec_l1Below x0 ((List.length x1 : Nat) : Int)) fun v1 =>
 if (decide ((0 : Int) ≤ v1.2)) = true then
 if (decide (v1.2 < ((List.length x1 : Nat) : Int))) = true then
 some ((v1.1, ()), ((List.getD x1 (Int.toNat v1.2) ([] : List UInt8)), ()))
 else
 none
 else
 none
 else
 none
theorem wp (x0 : Cur) (x1 : List (List UInt8)) (hp : pre x0 x1 = true) : Wp (raw x0 x1) (fun r => dP (fun n => n ∈ x1) (r.1.1, r.2.1)) := by
 unfold raw
 simp only [pre, Bool.and_eq_true, decide_eq_true_eq] at hp
 refine W_if (show spec_l1Below.pre x0 _ = true from hp.1) (W_fact (spec_l1Below_sp hp.1) fun v hv => ?_)
 have h1 := hv.2.1
 have h2 := hv.2.2 (by omega)
 refine W_if (decide_eq_true h1) (W_if (decide_eq_true h2) (W_some ⟨hv.1, ?_⟩))
 show x1.getD v.2.toNat [] ∈ x1
 rw [getD_get (by omega)]
 exact List.getElem_mem _
noncomputable def val (x0 : Cur) (x1 : List (List UInt8)) : Cur × List UInt8 := ((got (raw x0 x1)).1.1, (got (raw x0 x1)).2.1)
theorem eq (x0 : Cur) (x1 : List (List UInt8)) (_ : wf x0 x1) (hp : pre x0 x1 = true) : raw x0 x1 = some (((val x0 x1).1, ()), ((val x0 x1).2, ())) := (got_eq (wp x0 x1 hp)).1
end spec_l1Pick
noncomputable def spec_l1Pick (x0 : Cur) (x1 : List (List UInt8)) : Cur × List UInt8 := spec_l1Pick.val x0 x1
theorem spec_l1Pick_sp {x0 : Cur} {x1 : List (List UInt8)} (hp : spec_l1Pick.pre x0 x1 = true) : dP (fun n => n ∈ x1) (spec_l1Pick x0 x1) := (got_eq (spec_l1Pick.wp x0 x1 hp)).2
theorem pick_pre {c : Cur} {l : List Int} (h : curB c = true) (h2 : 0 < l.length) : spec_l1PickInt.pre c l = true := by simp only [spec_l1PickInt.pre, h, Bool.true_and, decide_eq_true_eq]; exact h2
theorem pickT_pre {c : Cur} {l : List (List UInt8)} (h : curB c = true) (h2 : 0 < l.length) : spec_l1Pick.pre c l = true := by simp only [spec_l1Pick.pre, h, Bool.true_and, decide_eq_true_eq]; exact h2
namespace spec_l1DrawRight
def pre (c : Cur) : Bool := curB c
abbrev wf (x0 : zt11) : Prop := wfA [(.ref zk31 .f)] (x0, ())
noncomputable def raw (x0 : zt11) : Option ((zt11 × Unit) × (Setup × Unit)) :=
 if (spec_l1Below.pre x0 (3 : Int)) = true then
 letB (spec_l1Below x0 (3 : Int)) fun v1 =>
 if (spec_l1PickInt.pre v1.1 ((1 : Int) :: ((2 : Int) :: ((5 : Int) :: ([] : List Int))))) = true then
 letB (spec_l1PickInt v1.1 ((1 : Int) :: ((2 : Int) :: ((5 : Int) :: ([] : List Int))))) fun v2 =>
 if (spec_l1PickInt.pre v2.1 ((1 : Int) :: ((2 : Int) :: ((3 : Int) :: ((8 : Int) :: ([] : List Int)))))) = true then
 letB (spec_l1PickInt v2.1 ((1 : Int) :: ((2 : Int) :: ((3 : Int) :: ((8 : Int) :: ([] : List Int)))))) fun v3 =>
 if (spec_l1PickInt.pre v3.1 ((0 : Int) :: ((1 : Int) :: ((3 : Int) :: ((10 : Int) :: ([] : List Int)))))) = true then
 letB (spec_l1PickInt v3.1 ((0 : Int) :: ((1 : Int) :: ((3 : Int) :: ((10 : Int) :: ([] : List Int)))))) fun v4 =>
 some ((v4.1, ()), (((IntKind.wrap .i64 ((1 : Int) + v1.2)), (v2.2, (v3.2, (v4.2, ())))), ()))
 else
 none
 else
 none
 else
 none
 else
 none
theorem wp (x0 : Cur) (hp : pre x0 = true) : Wp (raw x0) (fun r => dP (fun s => SetupOk s = true) (r.1.1, r.2.1)) := by
 unfold raw
 have hp : curB x0 = true := hp
 refine W_if (show spec_l1Below.pre x0 _ = true from hp) (W_fact (spec_l1Below_sp hp) fun a ha => W_if (pick_pre ha.1 (by decide)) (W_fact (spec_l1PickInt_sp (pick_pre ha.1 (by decide))) fun b hb => W_if (pick_pre hb.1 (by decide)) (W_fact (spec_l1PickInt_sp (pick_pre hb.1 (by decide))) fun c hc => W_if (pick_pre hc.1 (by decide)) (W_fact (spec_l1PickInt_sp (pick_pre hc.1 (by decide))) fun d hd => W_some ⟨hd.1, ?_⟩))))
 have a1 := ha.2.1; have a2 := ha.2.2 (by decide)
 have b1 := hb.2; have c1 := hc.2; have d1 := hd.2
 simp only [List.mem_cons, List.not_mem_nil, or_false] at b1 c1 d1
 show SetupOk (IntKind.wrap .i64 (1 + a.2), (b.2, (c.2, (d.2, ())))) = true
 rw [w64 (n := 1 + a.2) (by omega) (by omega)]
 simp only [SetupOk, impl_within, Bool.and_eq_true, decide_eq_true_eq]
 omega
noncomputable def val (x0 : Cur) : Cur × Setup := ((got (raw x0)).1.1, (got (raw x0)).2.1)
theorem eq (x0 : Cur) (_ : wf x0) (hp : pre x0 = true) : raw x0 = some (((val x0).1, ()), ((val x0).2, ())) := (got_eq (wp x0 hp)).1
end spec_l1DrawRight
noncomputable def spec_l1DrawRight (x0 : Cur) : Cur × Setup := spec_l1DrawRight.val x0
theorem spec_l1DrawRight_sp {x0 : Cur} (hp : curB x0 = true) : dP (fun s => SetupOk s = true) (spec_l1DrawRight x0) := (got_eq (spec_l1DrawRight.wp x0 hp)).2
namespace spec_l2DrawText
def pre (c : Cur) : Bool := curB c
abbrev wf (x0 : zt11) : Prop := wfA [(.ref zk31 .f)] (x0, ())
noncomputable def raw (x0 : zt11) : Option ((zt11 × Unit) × ((List UInt8) × Unit)) :=
 if (spec_l1Pick.pre x0 (([] : List UInt8) :: (((97 : UInt8) :: ([] : List UInt8)) :: (((98 : UInt8) :: ([] : List UInt8)) :: (((107 : UInt8) :: ((32 : UInt8) :: ((49 : UInt8) :: ([] : List UInt8)))) :: (((116 : UInt8) :: ((101 : UInt8) :: ((120 : UInt8) :: ((116 : UInt8) :: ([] : List UInt8))))) :: ([] : List (List UInt8)))))))) = true then
 letB (spec_l1Pick x0 (([] : List UInt8) :: (((97 : UInt8) :: ([] : List UInt8)) :: (((98 : UInt8) :: ([] : List UInt8)) :: (((107 : UInt8) :: ((32 : UInt8) :: ((49 : UInt8) :: ([] : List UInt8)))) :: (((116 : UInt8) :: ((101 : UInt8) :: ((120 : UInt8) :: ((116 : UInt8) :: ([] : List UInt8))))) :: ([] : List (List UInt8)))))))) fun v1 =>
 some ((v1.1, ()), (v1.2, ()))
 else
 none
theorem wp (x0 : Cur) (hp : pre x0 = true) : Wp (raw x0) (fun r => dP (fun t => wordsOk t = true) (r.1.1, r.2.1)) := by
 unfold raw
 have hp : curB x0 = true := hp
 refine W_if (pickT_pre hp (by decide)) (W_fact (spec_l1Pick_sp (pickT_pre hp (by decide))) fun v hv => W_some ⟨hv.1, ?_⟩)
 have h := hv.2
 simp only [List.mem_cons, List.not_mem_nil, or_false] at h
 show wordsOk v.2 = true
 rcases h with h | h | h | h | h <;> rw [h] <;> decide
noncomputable def val (x0 : Cur) : Cur × List UInt8 := ((got (raw x0)).1.1, (got (raw x0)).2.1)
theorem eq (x0 : Cur) (_ : wf x0) (hp : pre x0 = true) : raw x0 = some (((val x0).1, ()), ((val x0).2, ())) := (got_eq (wp x0 hp)).1
end spec_l2DrawText
noncomputable def spec_l2DrawText (x0 : Cur) : Cur × List UInt8 := spec_l2DrawText.val x0
theorem spec_l2DrawText_sp {x0 : Cur} (hp : curB x0 = true) : dP (fun t => wordsOk t = true) (spec_l2DrawText x0) := (got_eq (spec_l2DrawText.wp x0 hp)).2
def bodyP (c : Cmd) : Prop := c.1 = 0 ∧ c.2.1 = 0 ∧ rangeP 1 10 c.2.2.1 ∧ rangeP 0 60 c.2.2.2.1 ∧ rangeP 0 4 c.2.2.2.2.1 ∧ rangeP 0 4 c.2.2.2.2.2.1 ∧ wordsOk c.2.2.2.2.2.2.1 = true ∧ wordsOk c.2.2.2.2.2.2.2.1 = true
namespace spec_l2DrawBody
def pre (c : Cur) : Bool := curB c
abbrev wf (x0 : zt11) : Prop := wfA [(.ref zk31 .f)] (x0, ())
noncomputable def raw (x0 : zt11) : Option ((zt11 × Unit) × (Cmd × Unit)) :=
 if (spec_l1PickInt.pre x0 ((1 : Int) :: ((1 : Int) :: ((1 : Int) :: ((2 : Int) :: ((2 : Int) :: ((3 : Int) :: ((4 : Int) :: ((4 : Int) :: ((5 : Int) :: ((6 : Int) :: ((7 : Int) :: ((8 : Int) :: ((9 : Int) :: ((10 : Int) :: ([] : List Int)))))))))))))))) = true then
 letB (spec_l1PickInt x0 ((1 : Int) :: ((1 : Int) :: ((1 : Int) :: ((2 : Int) :: ((2 : Int) :: ((3 : Int) :: ((4 : Int) :: ((4 : Int) :: ((5 : Int) :: ((6 : Int) :: ((7 : Int) :: ((8 : Int) :: ((9 : Int) :: ((10 : Int) :: ([] : List Int)))))))))))))))) fun v1 =>
 if (spec_l1Below.pre v1.1 (3 : Int)) = true then
 letB (spec_l1Below v1.1 (3 : Int)) fun v2 =>
 if (spec_l1Below.pre v2.1 (4 : Int)) = true then
 letB (spec_l1Below v2.1 (4 : Int)) fun v3 =>
 if (spec_l1Below.pre v3.1 (3 : Int)) = true then
 if (decide (v1.2 = (1 : Int))) = true then
 letB (spec_l1Below v3.1 (3 : Int)) fun v4 =>
 if (spec_l2DrawText.pre v4.1) = true then
 letB (spec_l2DrawText v4.1) fun v5 =>
 if (spec_l2DrawText.pre v5.1) = true then
 letB (spec_l2DrawText v5.1) fun v6 =>
 if (spec_l1PickInt.pre v6.1 ((0 : Int) :: ((0 : Int) :: ((0 : Int) :: ((1 : Int) :: ([] : List Int)))))) = true then
 letB (spec_l1PickInt v6.1 ((0 : Int) :: ((0 : Int) :: ((0 : Int) :: ((1 : Int) :: ([] : List Int)))))) fun v7 =>
 some ((v7.1, ()), (((0 : Int), ((0 : Int), (v1.2, (v2.2, (v3.2, (v7.2, (v5.2, (v6.2, ())))))))), ()))
 else
 none
 else
 none
 else
 none
 else
 if (decide (v1.2 = (8 : Int))) = true then
 letB (spec_l1Below v3.1 (3 : Int)) fun v8 =>
 if (spec_l1PickInt.pre v8.1 ((0 : Int) :: ((10 : Int) :: ((60 : Int) :: ([] : List Int))))) = true then
 letB (spec_l1PickInt v8.1 ((0 : Int) :: ((10 : Int) :: ((60 : Int) :: ([] : List Int))))) fun v9 =>
 some ((v9.1, ()), (((0 : Int), ((0 : Int), (v1.2, (v9.2, (v3.2, (v8.2, (([] : List UInt8), (([] : List UInt8), ())))))))), ()))
 else
 none
 else
 letB (spec_l1Below v3.1 (3 : Int)) fun v10 =>
 some ((v10.1, ()), (((0 : Int), ((0 : Int), (v1.2, (v2.2, (v3.2, (v10.2, (([] : List UInt8), (([] : List UInt8), ())))))))), ()))
 else
 none
 else
 none
 else
 none
 else
 none
theorem wp (x0 : Cur) (hp : pre x0 = true) : Wp (raw x0) (fun r => dP bodyP (r.1.1, r.2.1)) := by
 unfold raw
 have hp : curB x0 = true := hp
 have p1 : ∀ {c : Cur} {n : Int}, curB c = true → spec_l1Below.pre c n = true := fun h => h
 have p2 : ∀ {c : Cur}, curB c = true → spec_l2DrawText.pre c = true := fun h => h
 refine W_if (pick_pre hp (by decide)) (W_fact (spec_l1PickInt_sp (pick_pre hp (by decide))) fun o ho => ?_)
 have ho2 := ho.2
 simp only [List.mem_cons, List.not_mem_nil, or_false] at ho2
 have o1 : rangeP 1 10 o.2 := by simp only [rangeP]; omega
 have ho := ho.1
 have key : ∀ {a : Int}, belowP 3 a → rangeP 0 60 a ∧ rangeP 0 4 a := fun h => by
  have h2 := h.2 (by decide)
  exact ⟨⟨h.1, by omega⟩, h.1, by omega⟩
 have key4 : ∀ {a : Int}, belowP 4 a → rangeP 0 4 a := fun h => by
  have h2 := h.2 (by decide)
  exact ⟨h.1, by omega⟩
 refine W_if (p1 ho) (W_fact (spec_l1Below_sp ho) fun a ha => W_if (p1 ha.1) (W_fact (spec_l1Below_sp ha.1) fun b hb => W_if (p1 hb.1) (W_ite (fun e => ?_) fun _ => W_ite (fun e => ?_) fun e => ?_)))
 · refine W_fact (spec_l1Below_sp hb.1) fun c hc => W_if (p2 hc.1) (W_fact (spec_l2DrawText_sp hc.1) fun d hd => W_if (p2 hd.1) (W_fact (spec_l2DrawText_sp hd.1) fun f hf => W_if (pick_pre hf.1 (by decide)) (W_fact (spec_l1PickInt_sp (pick_pre hf.1 (by decide))) fun g hg => W_some ⟨hg.1, rfl, rfl, o1, (key ha.2).1, key4 hb.2, ?_, hd.2, hf.2⟩)))
   have := hg.2
   simp only [List.mem_cons, List.not_mem_nil, or_false] at this
   show rangeP 0 4 g.2
   simp only [rangeP]; omega
 · refine W_fact (spec_l1Below_sp hb.1) fun c hc => W_if (pick_pre hc.1 (by decide)) (W_fact (spec_l1PickInt_sp (pick_pre hc.1 (by decide))) fun g hg => W_some ⟨hg.1, rfl, rfl, o1, ?_, key4 hb.2, (key hc.2).2, rfl, rfl⟩)
   have := hg.2
   simp only [List.mem_cons, List.not_mem_nil, or_false] at this
   show rangeP 0 60 g.2
   simp only [rangeP]; omega
 · exact W_fact (spec_l1Below_sp hb.1) fun c hc => W_some ⟨hc.1, rfl, rfl, o1, (key ha.2).1, key4 hb.2, (key hc.2).2, rfl, rfl⟩
noncomputable def val (x0 : Cur) : Cur × Cmd := ((got (raw x0)).1.1, (got (raw x0)).2.1)
theorem eq (x0 : Cur) (_ : wf x0) (hp : pre x0 = true) : raw x0 = some (((val x0).1, ()), ((val x0).2, ())) := (got_eq (wp x0 hp)).1
end spec_l2DrawBody
noncomputable def spec_l2DrawBody (x0 : Cur) : Cur × Cmd := spec_l2DrawBody.val x0
theorem spec_l2DrawBody_sp {x0 : Cur} (hp : curB x0 = true) : dP bodyP (spec_l2DrawBody x0) := (got_eq (spec_l2DrawBody.wp x0 hp)).2
def smallCmd (c : Cmd) : Prop := CmdOk c = true ∧ (c.1 = -1 ∨ (0 ≤ c.1 ∧ c.2.1 ≤ 6))
theorem body_ok {c : Cmd} {w q : Int} (h : bodyP c) (hw : rangeP 0 3 w) (hq : rangeP 1 100000 q) : CmdOk (w, (q, c.2.2)) = true := by
 obtain ⟨_, _, h3, h4, h5, h6, h7, h8⟩ := h
 simp only [rangeP] at *
 unfold CmdOk
 rw [if_neg (by show ¬ w = -1; omega)]
 simp only [impl_within, Bool.and_eq_true, decide_eq_true_eq]
 exact ⟨by omega, by omega, by omega, by omega, by omega, by omega, h7, h8⟩
theorem none_ok : CmdOk ((-1 : Int), zd22) = true := by decide
namespace spec_l2DrawRight
def pre (c : Cur) : Bool := curB c
abbrev wf (x0 : zt11) : Prop := wfA [(.ref zk31 .f)] (x0, ())
noncomputable def raw (x0 : zt11) : Option ((zt11 × Unit) × (Cmd × Unit)) :=
 if (spec_l1Once.pre x0 (10 : Int)) = true then
 letB (spec_l1Once x0 (10 : Int)) fun v1 =>
 if v1.2 = true then
 some ((v1.1, ()), (((-1 : Int), zd22), ()))
 else
 if (spec_l2DrawBody.pre v1.1) = true then
 letB (spec_l2DrawBody v1.1) fun v2 =>
 if (spec_l1Below.pre v2.1 (4 : Int)) = true then
 letB (spec_l1Below v2.1 (4 : Int)) fun v3 =>
 if (spec_l1Below.pre v3.1 (6 : Int)) = true then
 letB (spec_l1Below v3.1 (6 : Int)) fun v4 =>
 some ((v4.1, ()), ((v3.2, ((IntKind.wrap .i64 ((1 : Int) + v4.2)), v2.2.2.2)), ()))
 else
 none
 else
 none
 else
 none
 else
 none
theorem wp (x0 : Cur) (hp : pre x0 = true) : Wp (raw x0) (fun r => dP smallCmd (r.1.1, r.2.1)) := by
 unfold raw
 have hp : curB x0 = true := hp
 refine W_if (show spec_l1Once.pre x0 _ = true from hp) (W_fact (spec_l1Once_sp hp) fun o ho => W_ite (fun _ => W_some ⟨ho.1, ⟨none_ok, .inl rfl⟩⟩) fun _ => ?_)
 refine W_if (show spec_l2DrawBody.pre o.1 = true from ho.1) (W_fact (spec_l2DrawBody_sp ho.1) fun a ha => W_if (show spec_l1Below.pre a.1 _ = true from ha.1) (W_fact (spec_l1Below_sp ha.1) fun b hb => W_if (show spec_l1Below.pre b.1 _ = true from hb.1) (W_fact (spec_l1Below_sp hb.1) fun c hc => W_some ⟨hc.1, ?_⟩)))
 have b1 := hb.2.1; have b2 := hb.2.2 (by decide)
 have c1 := hc.2.1; have c2 := hc.2.2 (by decide)
 have e := w64 (n := 1 + c.2) (by omega) (by omega)
 show smallCmd (b.2, (IntKind.wrap .i64 (1 + c.2), a.2.2.2))
 rw [e]
 exact ⟨body_ok ha.2 ⟨b1, by omega⟩ ⟨by omega, by omega⟩, .inr ⟨b1, by show 1 + c.2 ≤ 6; omega⟩⟩
noncomputable def val (x0 : Cur) : Cur × Cmd := ((got (raw x0)).1.1, (got (raw x0)).2.1)
theorem eq (x0 : Cur) (_ : wf x0) (hp : pre x0 = true) : raw x0 = some (((val x0).1, ()), ((val x0).2, ())) := (got_eq (wp x0 hp)).1
end spec_l2DrawRight
noncomputable def spec_l2DrawRight (x0 : Cur) : Cur × Cmd := spec_l2DrawRight.val x0
theorem spec_l2DrawRight_sp {x0 : Cur} (hp : curB x0 = true) : dP smallCmd (spec_l2DrawRight x0) := (got_eq (spec_l2DrawRight.wp x0 hp)).2
theorem cmd_seq {c : Cmd} {q : Int} (h : CmdOk c = true) (h0 : 0 ≤ c.1) (hq : rangeP 1 100000 q) : CmdOk (c.1, (q, c.2.2)) = true := by
 unfold CmdOk at h ⊢
 rw [if_neg (by omega)] at h
 rw [if_neg (by show ¬ c.1 = -1; omega)]
 simp only [Bool.and_eq_true] at h ⊢
 exact ⟨h.1, by simp only [rangeP] at hq; simp only [impl_within, Bool.and_eq_true, decide_eq_true_eq]; exact hq, h.2.2⟩
def cmdsP (n : Int) (l : List Cmd) : Prop := (l.length : Int) ≤ n ∧ l.all CmdOk = true
namespace spec_l6DrawCmds
abbrev S4 : Type := (Int × (Int × (zt11 × ((List Cmd) × Unit))))
abbrev O4 : Type := (zt11 × ((List Cmd) × Unit))
def pre4 : S4 → Bool := fun (x1, x2, x3, x4, _) => decide (x1 ≤ 100) && (decide (0 ≤ x2) && (curB x3 && (decide ((x4.length : Int) = x2) && x4.all CmdOk)))
def mu4 : S4 → Nat := fun (x1, x2, _, _, _) => (x1 - x2).toNat
def Q4 (s : S4) (o : O4) : Prop := curB o.1 = true ∧ cmdsP (max s.1 s.2.1) o.2.1
noncomputable def raw4 (x1 : Int) (x2 : Int) (x3 : zt11) (x4 : (List Cmd)) : Option ((Int × (Int × (zt11 × ((List Cmd) × Unit)))) ⊕ (zt11 × ((List Cmd) × Unit))) :=
 if (decide (x2 < x1)) = true then
 if (spec_l2DrawRight.pre x3) = true then
 letB (spec_l2DrawRight x3) fun v1 =>
 if (decide ((0 : Int) ≤ v1.2.1)) = true then
 if (spec_l1Once.pre v1.1 (4 : Int)) = true then
 letB (spec_l1Once v1.1 (4 : Int)) fun v2 =>
 if (!v2.2) = true then
 if (decide (List.length x4 + List.length ((v1.2.1, ((IntKind.wrap .i64 (x2 + (1 : Int))), v1.2.2.2)) :: ([] : List Cmd)) ≤ lim)) = true then
 some (.inl (x1, ((IntKind.wrap .i64 (x2 + (1 : Int))), (v2.1, ((List.append x4 ((v1.2.1, ((IntKind.wrap .i64 (x2 + (1 : Int))), v1.2.2.2)) :: ([] : List Cmd))), ())))))
 else
 none
 else
 if (decide (List.length x4 + List.length (v1.2 :: ([] : List Cmd)) ≤ lim)) = true then
 some (.inl (x1, ((IntKind.wrap .i64 (x2 + (1 : Int))), (v2.1, ((List.append x4 (v1.2 :: ([] : List Cmd))), ())))))
 else
 none
 else
 none
 else
 if (decide (List.length x4 + List.length (v1.2 :: ([] : List Cmd)) ≤ lim)) = true then
 some (.inl (x1, ((IntKind.wrap .i64 (x2 + (1 : Int))), (v1.1, ((List.append x4 (v1.2 :: ([] : List Cmd))), ())))))
 else
 none
 else
 none
 else
 some (.inr (x3, (x4, ())))
theorem wp4 : ∀ s, pre4 s = true → Wp ((fun (x : S4) => raw4 x.1 x.2.1 x.2.2.1 x.2.2.2.1) s) (Step pre4 mu4 Q4 s) := by
 rintro ⟨x1, x2, x3, x4, ⟨⟩⟩ hp
 simp only [pre4, Bool.and_eq_true, decide_eq_true_eq] at hp
 obtain ⟨h1, h2, h3, h4, h5⟩ := hp
 show Wp (raw4 x1 x2 x3 x4) _
 unfold raw4
 refine W_ite (fun h => ?_) fun h => W_some ⟨h3, by show (x4.length : Int) ≤ max x1 x2; omega, h5⟩
 rw [decide_eq_true_eq] at h
 have e := w64 (n := x2 + 1) (by omega) (by omega)
 have go : ∀ (c : Cur) (k : Cmd), curB c = true → CmdOk k = true → Step pre4 mu4 Q4 (x1, x2, x3, x4, ()) (.inl (x1, (IntKind.wrap .i64 (x2 + 1), (c, (List.append x4 (k :: ([] : List Cmd)), ()))))) := by
  intro c k hc hk
  rw [e]
  refine ⟨?_, ?_, fun o ho => ?_⟩
  · simp only [pre4, Bool.and_eq_true, decide_eq_true_eq, List.append_eq, List.length_append, List.length_cons, List.length_nil, List.all_append, List.all_cons, List.all_nil]
    exact ⟨h1, by omega, hc, by omega, h5, hk, trivial⟩
  · simp only [mu4]; omega
  · obtain ⟨o1, o2, o3⟩ := ho
    refine ⟨o1, ?_, o3⟩
    show (o.2.1.length : Int) ≤ max x1 x2
    have : (o.2.1.length : Int) ≤ max x1 (x2 + 1) := o2
    omega
 have hl : ∀ k : Cmd, decide (x4.length + (k :: ([] : List Cmd)).length ≤ lim) = true := fun k => by
  simp only [decide_eq_true_eq, List.length_cons, List.length_nil, lim]; omega
 refine W_if (show spec_l2DrawRight.pre x3 = true from h3) (W_fact (spec_l2DrawRight_sp h3) fun v hv => W_ite (fun h0 => ?_) fun h0 => W_if (hl _) (W_some (go _ _ hv.1 hv.2.1)))
 rw [decide_eq_true_eq] at h0
 refine W_if (show spec_l1Once.pre v.1 _ = true from hv.1) (W_fact (spec_l1Once_sp hv.1) fun o ho => W_ite (fun _ => W_if (hl _) (W_some (go _ _ ho.1 ?_))) fun _ => W_if (hl _) (W_some (go _ _ ho.1 hv.2.1)))
 rw [e]
 exact cmd_seq hv.2.1 h0 ⟨by omega, by omega⟩
noncomputable def fn4 : S4 → O4 := runF (fun (x : S4) => raw4 x.1 x.2.1 x.2.2.1 x.2.2.2.1) mu4
theorem ok4 (x1 x2 : Int) (x3 : Cur) (x4 : List Cmd) (hp : pre4 (x1, (x2, (x3, (x4, ())))) = true) : Rounds pre4 mu4 fn4 (x1, (x2, (x3, (x4, ())))) (raw4 x1 x2 x3 x4) := runF_ok wp4 hp
def pre (c : Cur) (n : Int) : Bool := curB c && (decide (0 ≤ n) && decide (n ≤ 50))
abbrev wf (x0 : zt11) (x1 : Int) : Prop := wfA [(.ref zk31 .f), (.val (.int .i64) .f)] (x0, (x1, ()))
noncomputable def raw (x0 : zt11) (x1 : Int) : Option ((zt11 × Unit) × ((List Cmd) × Unit)) :=
 if (spec_l1Below.pre x0 (IntKind.wrap .i64 (x1 + (1 : Int)))) = true then
 letB (spec_l1Below x0 (IntKind.wrap .i64 (x1 + (1 : Int)))) fun v1 =>
 if (spec_l6DrawCmds.pre4 (v1.2, ((0 : Int), (v1.1, (([] : List Cmd), ()))))) = true then
 letB (spec_l6DrawCmds.fn4 (v1.2, ((0 : Int), (v1.1, (([] : List Cmd), ()))))) fun v2 =>
 some ((v2.1, ()), v2.2)
 else
 none
 else
 none
theorem wp (x0 : Cur) (x1 : Int) (hp : pre x0 x1 = true) : Wp (raw x0 x1) (fun r => dP (cmdsP x1) (r.1.1, r.2.1)) := by
 unfold raw
 simp only [pre, Bool.and_eq_true, decide_eq_true_eq] at hp
 obtain ⟨h1, h2, h3⟩ := hp
 rw [w64 (n := x1 + 1) (by omega) (by omega)]
 refine W_if (show spec_l1Below.pre x0 _ = true from h1) (W_fact (spec_l1Below_sp h1) fun v hv => ?_)
 have v1 := hv.2.1; have v2 := hv.2.2 (by omega)
 have hq : pre4 (v.2, ((0 : Int), (v.1, (([] : List Cmd), ())))) = true := by
  simp only [pre4, Bool.and_eq_true, decide_eq_true_eq, List.length_nil, List.all_nil]
  exact ⟨by omega, by omega, hv.1, rfl, trivial⟩
 refine W_if hq (W_fact (runF_q wp4 hq : Q4 _ (fn4 _)) fun o ho => W_some ⟨ho.1, ?_, ho.2.2⟩)
 have : (o.2.1.length : Int) ≤ max v.2 0 := ho.2.1
 show (o.2.1.length : Int) ≤ x1
 omega
noncomputable def val (x0 : Cur) (x1 : Int) : Cur × List Cmd := ((got (raw x0 x1)).1.1, (got (raw x0 x1)).2.1)
theorem eq (x0 : Cur) (x1 : Int) (_ : wf x0 x1) (hp : pre x0 x1 = true) : raw x0 x1 = some (((val x0 x1).1, ()), ((val x0 x1).2, ())) := (got_eq (wp x0 x1 hp)).1
end spec_l6DrawCmds
noncomputable def spec_l6DrawCmds (x0 : Cur) (x1 : Int) : Cur × List Cmd := spec_l6DrawCmds.val x0 x1
theorem spec_l6DrawCmds_sp {x0 : Cur} {x1 : Int} (hp : spec_l6DrawCmds.pre x0 x1 = true) : dP (cmdsP x1) (spec_l6DrawCmds x0 x1) := (got_eq (spec_l6DrawCmds.wp x0 x1 hp)).2
theorem W_eq {β : Type} {m : Option (Unit × (β × Unit))} {v : β} (h : Wp m fun r => r.2.1 = v) : m = some ((), (v, ())) := by
 obtain ⟨a, rfl, rfl⟩ := h
 rfl
theorem groupS_iff {g : Group} : groupS g = true ↔ g.2.1.length ≤ 16777216 ∧ g.2.2.1.length ≤ 16777216 ∧ g.2.2.2.1.length ≤ 16777216 := by
 simp only [groupS, Bool.and_eq_true, small_iff]
def upG (n : Int) : Int := if 100000 ≤ n then n else n + 1
namespace spec_l5Up
def pre (n : Int) : Bool := decide (n ≤ n)
abbrev wf (x0 : Int) : Prop := wfA [(.val (.int .i64) .f)] (x0, ())
noncomputable def raw (x0 : Int) : Option (Unit × (Int × Unit)) :=
 if (decide ((100000 : Int) ≤ x0)) = true then
 some ((), (x0, ()))
 else
 some ((), ((IntKind.wrap .i64 (x0 + (1 : Int))), ()))
theorem eq (x0 : Int) (hw : wf x0) (_ : pre x0 = true) : raw x0 = some ((), (upG x0, ())) := by
 have h := in64.1 hw.1
 unfold raw upG
 by_cases h1 : 100000 ≤ x0
 · rw [if_pos (decide_eq_true h1), if_pos h1]
 · rw [if_neg (by simpa using h1), if_neg h1, w64 (by omega) (by omega)]
end spec_l5Up
abbrev spec_l5Up := upG
def without (g : Group) (i : Int) : Group := (g.1, (g.2.1.eraseIdx i.toNat, (g.2.2.1.eraseIdx i.toNat, g.2.2.2)))
theorem erase_parts {α : Type} {xs : List α} {i : Int} (h0 : 0 ≤ i) (h1 : i < (xs.length : Int)) (h2 : xs.length ≤ 16777216) :
 List.append (List.append ([] : List α) (dropTake (Int.toNat 0) i.toNat xs)) (dropTake (IntKind.wrap .i64 (i + 1)).toNat ((xs.length : Int)).toNat xs) = xs.eraseIdx i.toNat := by
 rw [w64 (n := i + 1) (by omega) (by omega)]
 show List.take (i.toNat - 0) (List.drop 0 xs) ++ List.take (((xs.length : Int)).toNat - (i + 1).toNat) (List.drop (i + 1).toNat xs) = _
 rw [List.take_of_length_le (l := List.drop (i + 1).toNat xs) (by rw [List.length_drop]; omega), List.drop_zero, List.eraseIdx_eq_take_drop_succ, show (i + 1).toNat = i.toNat + 1 by omega]; rfl
namespace spec_l5Without
def pre (g : Group) (i : Int) : Bool := groupS g && (decide (0 ≤ i) && decide (i < (g.2.1.length : Int)))
abbrev wf (x0 : Group) (x1 : Int) : Prop := wfA [(.val zk14 .f), (.val (.int .i64) .f)] (x0, (x1, ()))
noncomputable def raw (x0 : Group) (x1 : Int) : Option (Unit × (Group × Unit)) :=
 if (spec_l5Copy.pre x0) = true then
 if (decide ((0 : Int) ≤ (0 : Int))) = true then
 if (decide ((0 : Int) ≤ x1)) = true then
 if (decide (x1 ≤ ((List.length x0.2.1 : Nat) : Int))) = true then
 if (decide (List.length ([] : List Int) + List.length (dropTake (Int.toNat (0 : Int)) (Int.toNat x1) x0.2.1) ≤ lim)) = true then
 if (decide ((0 : Int) ≤ (IntKind.wrap .i64 (x1 + (1 : Int))))) = true then
 if (decide ((IntKind.wrap .i64 (x1 + (1 : Int))) ≤ ((List.length x0.2.1 : Nat) : Int))) = true then
 if (decide (((List.length x0.2.1 : Nat) : Int) ≤ ((List.length x0.2.1 : Nat) : Int))) = true then
 if (decide (List.length (List.append ([] : List Int) (dropTake (Int.toNat (0 : Int)) (Int.toNat x1) x0.2.1)) + List.length (dropTake (Int.toNat (IntKind.wrap .i64 (x1 + (1 : Int)))) (Int.toNat ((List.length x0.2.1 : Nat) : Int)) x0.2.1) ≤ lim)) = true then
 if (decide (x1 < ((List.length x0.2.2.1 : Nat) : Int))) = true then
 if (decide ((0 : Int) ≤ (0 : Int))) = true then
 if (decide ((0 : Int) ≤ x1)) = true then
 if (decide (x1 ≤ ((List.length x0.2.2.1 : Nat) : Int))) = true then
 if (decide (List.length ([] : List Int) + List.length (dropTake (Int.toNat (0 : Int)) (Int.toNat x1) x0.2.2.1) ≤ lim)) = true then
 if (decide ((0 : Int) ≤ (IntKind.wrap .i64 (x1 + (1 : Int))))) = true then
 if (decide ((IntKind.wrap .i64 (x1 + (1 : Int))) ≤ ((List.length x0.2.2.1 : Nat) : Int))) = true then
 if (decide (((List.length x0.2.2.1 : Nat) : Int) ≤ ((List.length x0.2.2.1 : Nat) : Int))) = true then
 if (decide (List.length (List.append ([] : List Int) (dropTake (Int.toNat (0 : Int)) (Int.toNat x1) x0.2.2.1)) + List.length (dropTake (Int.toNat (IntKind.wrap .i64 (x1 + (1 : Int)))) (Int.toNat ((List.length x0.2.2.1 : Nat) : Int)) x0.2.2.1) ≤ lim)) = true then
 letB (spec_l5Copy x0) fun v1 =>
 some ((), ((v1.1, ((List.append (List.append ([] : List Int) (dropTake (Int.toNat (0 : Int)) (Int.toNat x1) x0.2.1)) (dropTake (Int.toNat (IntKind.wrap .i64 (x1 + (1 : Int)))) (Int.toNat ((List.length x0.2.1 : Nat) : Int)) x0.2.1)), ((List.append (List.append ([] : List Int) (dropTake (Int.toNat (0 : Int)) (Int.toNat x1) x0.2.2.1)) (dropTake (Int.toNat (IntKind.wrap .i64 (x1 + (1 : Int)))) (Int.toNat ((List.length x0.2.2.1 : Nat) : Int)) x0.2.2.1)), v1.2.2.2))), ()))
 else
 none
 else
 none
 else
 none
 else
 none
 else
 none
 else
 none
 else
 none
 else
 none
 else
 letB (spec_l5Copy x0) fun v2 =>
 some ((), ((v2.1, ((List.append (List.append ([] : List Int) (dropTake (Int.toNat (0 : Int)) (Int.toNat x1) x0.2.1)) (dropTake (Int.toNat (IntKind.wrap .i64 (x1 + (1 : Int)))) (Int.toNat ((List.length x0.2.1 : Nat) : Int)) x0.2.1)), v2.2.2)), ()))
 else
 none
 else
 none
 else
 none
 else
 none
 else
 none
 else
 none
 else
 none
 else
 none
 else
 none
theorem eq (x0 : Group) (x1 : Int) (_ : wf x0 x1) (hp : pre x0 x1 = true) : raw x0 x1 = some ((), (without x0 x1, ())) := by
 simp only [pre, Bool.and_eq_true, decide_eq_true_eq] at hp
 obtain ⟨hs, h1, h2⟩ := hp
 have hg := groupS_iff.1 hs
 have e := w64 (n := x1 + 1) (by omega) (by omega)
 unfold raw without
 rw [erase_parts h1 h2 hg.1, e]
 refine E_if (show spec_l5Copy.pre x0 = true from hs) ?_
 repeat (first | (with_reducible refine E_let ?_) | (with_reducible refine E_if ?hs ?_; case hs => (first | assumption | (simp only [decide_eq_true_eq, Bool.not_eq_true', decide_eq_false_iff_not, Bool.not_eq_true, List.length_append, List.append_eq, List.length_cons, List.length_nil, dropTake, List.length_take, List.length_drop, List.length_modify, List.length_eraseIdx, lim]; omega) | (simp only [decide_eq_true_eq]; omega))) | (with_reducible refine E_else ?hs ?_; case hs => (first | assumption | (simp only [decide_eq_true_eq, Bool.not_eq_true', decide_eq_false_iff_not, Bool.not_eq_true, List.length_append, List.append_eq, List.length_cons, List.length_nil, dropTake, List.length_take, List.length_drop, List.length_modify, List.length_eraseIdx, lim]; omega) | (simp only [decide_eq_true_eq]; omega))))
 by_cases h3 : x1 < (x0.2.2.1.length : Int)
 · rw [← e, erase_parts h1 h3 hg.2.1, e]
   repeat (first | (with_reducible refine E_let ?_) | (with_reducible refine E_if ?hs ?_; case hs => (first | assumption | (simp only [decide_eq_true_eq, Bool.not_eq_true', decide_eq_false_iff_not, Bool.not_eq_true, List.length_append, List.append_eq, List.length_cons, List.length_nil, dropTake, List.length_take, List.length_drop, List.length_modify, List.length_eraseIdx, lim]; omega) | (simp only [decide_eq_true_eq]; omega))) | (with_reducible refine E_else ?hs ?_; case hs => (first | assumption | (simp only [decide_eq_true_eq, Bool.not_eq_true', decide_eq_false_iff_not, Bool.not_eq_true, List.length_append, List.append_eq, List.length_cons, List.length_nil, dropTake, List.length_take, List.length_drop, List.length_modify, List.length_eraseIdx, lim]; omega) | (simp only [decide_eq_true_eq]; omega))))
   rfl
 · rw [List.eraseIdx_of_length_le (l := x0.2.2.1) (by omega)]
   repeat (first | (with_reducible refine E_let ?_) | (with_reducible refine E_if ?hs ?_; case hs => (first | assumption | (simp only [decide_eq_true_eq, Bool.not_eq_true', decide_eq_false_iff_not, Bool.not_eq_true, List.length_append, List.append_eq, List.length_cons, List.length_nil, dropTake, List.length_take, List.length_drop, List.length_modify, List.length_eraseIdx, lim]; omega) | (simp only [decide_eq_true_eq]; omega))) | (with_reducible refine E_else ?hs ?_; case hs => (first | assumption | (simp only [decide_eq_true_eq, Bool.not_eq_true', decide_eq_false_iff_not, Bool.not_eq_true, List.length_append, List.append_eq, List.length_cons, List.length_nil, dropTake, List.length_take, List.length_drop, List.length_modify, List.length_eraseIdx, lim]; omega) | (simp only [decide_eq_true_eq]; omega))))
   rfl
end spec_l5Without
abbrev spec_l5Without := without
theorem groupS_without {g : Group} {i : Int} (h : groupS g = true) : groupS (without g i) = true := by
 rw [groupS_iff] at h ⊢
 have h1 : (g.2.1.eraseIdx i.toNat).length ≤ g.2.1.length := List.length_eraseIdx_le _ _
 have h2 : (g.2.2.1.eraseIdx i.toNat).length ≤ g.2.2.1.length := List.length_eraseIdx_le _ _
 exact ⟨Nat.le_trans h1 h.1, Nat.le_trans h2 h.2.1, h.2.2⟩
def findAt (who : Int) : List Int → Int → Int
 | [], _ => -1
 | m :: r, i => if m = who then i else findAt who r (i + 1)
theorem findAt_lt {who : Int} : (l : List Int) → (i : Int) → 0 ≤ i → 0 ≤ findAt who l i → i ≤ findAt who l i ∧ findAt who l i < i + l.length
 | [], _, _, h => by simp only [findAt] at h; omega
 | m :: r, i, h0, h => by
  simp only [findAt, List.length_cons] at h ⊢
  by_cases e : m = who
  · rw [if_pos e]; omega
  · rw [if_neg e] at h ⊢
    have := findAt_lt r (i + 1) (by omega) h
    omega
theorem findAt_ge {who : Int} : (l : List Int) → (i : Int) → 0 ≤ i → -1 ≤ findAt who l i
 | [], _, _ => by simp only [findAt]; omega
 | m :: r, i, h0 => by
  simp only [findAt]
  split
  · omega
  · exact findAt_ge r (i + 1) (by omega)
def atG (g : Group) (who : Int) : Int := findAt who g.2.1 0
namespace spec_l5At
abbrev S2 : Type := (Int × (Int × (Group × Unit)))
abbrev O2 : Type := ((Int × Unit) ⊕ Unit)
def pre2 : S2 → Bool := fun (_, x2, x3, _) => decide (0 ≤ x2) && (decide (x2 ≤ (x3.2.1.length : Int)) && decide (x3.2.1.length ≤ 16777216))
def fn2 : S2 → O2 := fun (x1, x2, x3, _) => if 0 ≤ findAt x1 (x3.2.1.drop x2.toNat) x2 then .inl (findAt x1 (x3.2.1.drop x2.toNat) x2, ()) else .inr ()
def mu2 : S2 → Nat := fun (_, x2, x3, _) => x3.2.1.length - x2.toNat
noncomputable def raw2 (x1 : Int) (x2 : Int) (x3 : Group) : Option ((Int × (Int × (Group × Unit))) ⊕ ((Int × Unit) ⊕ Unit)) :=
 if (decide (x2 < ((List.length x3.2.1 : Nat) : Int))) = true then
 if (decide ((0 : Int) ≤ x2)) = true then
 if (decide (x2 < ((List.length x3.2.1 : Nat) : Int))) = true then
 if (decide ((List.getD x3.2.1 (Int.toNat x2) (0 : Int)) = x1)) = true then
 some (.inr (.inl (x2, ())))
 else
 some (.inl (x1, ((IntKind.wrap .i64 (x2 + (1 : Int))), (x3, ()))))
 else
 none
 else
 none
 else
 some (.inr (.inr ()))
abbrev wf (x0 : Group) (x1 : Int) : Prop := wfA [(.val zk14 .f), (.val (.int .i64) .f)] (x0, (x1, ()))
noncomputable def raw (x0 : Group) (x1 : Int) : Option (Unit × (Int × Unit)) :=
 if (spec_l5At.pre2 (x1, ((0 : Int), (x0, ())))) = true then
  letB (spec_l5At.fn2 (x1, ((0 : Int), (x0, ())))) fun v1 =>
  match v1 with
  | .inl y =>
   some ((), y)
  | .inr y =>
   some ((), ((-1 : Int), ()))
 else
  none
theorem ok2 (x1 x2 : Int) (x3 : Group) (hp : pre2 (x1, (x2, (x3, ()))) = true) : Rounds pre2 mu2 fn2 (x1, (x2, (x3, ()))) (raw2 x1 x2 x3) := by
 simp only [pre2, Bool.and_eq_true, decide_eq_true_eq] at hp
 obtain ⟨h1, h2, h3⟩ := hp
 unfold raw2
 by_cases hlt : x2 < (x3.2.1.length : Int)
 · have hn : x2.toNat < x3.2.1.length := by omega
   have e1 := List.drop_eq_getElem_cons hn
   refine R_if (decide_eq_true hlt) (R_if (decide_eq_true h1) (R_if (decide_eq_true hlt) ?_))
   rw [getD_get hn, w64 (n := x2 + 1) (by omega) (by omega)]
   by_cases he : x3.2.1[x2.toNat] = x1
   · refine R_if (decide_eq_true he) ?_
     show _ = (if 0 ≤ findAt x1 (x3.2.1.drop x2.toNat) x2 then _ else _)
     rw [e1]
     simp only [findAt, he, if_true]
     rw [if_pos h1]
   · refine R_else (by rw [decide_eq_true_eq]; exact he) ⟨?_, by simp only [mu2]; omega, ?_⟩
     · simp only [pre2, Bool.and_eq_true, decide_eq_true_eq]; omega
     · show (if 0 ≤ findAt x1 (x3.2.1.drop (x2 + 1).toNat) (x2 + 1) then _ else _) = (if 0 ≤ findAt x1 (x3.2.1.drop x2.toNat) x2 then _ else _)
       rw [e1, show (x2 + 1).toNat = x2.toNat + 1 by omega]
       simp only [findAt, he, if_false]
 · refine R_else (by rw [decide_eq_true_eq]; exact hlt) ?_
   show _ = (if 0 ≤ findAt x1 (x3.2.1.drop x2.toNat) x2 then _ else _)
   rw [List.drop_eq_nil_of_le (by omega)]
   rfl
def pre (g : Group) (_ : Int) : Bool := groupS g
theorem eq (x0 : Group) (x1 : Int) (_ : wf x0 x1) (hp : pre x0 x1 = true) : raw x0 x1 = some ((), (atG x0 x1, ())) := by
 have hg := groupS_iff.1 (show groupS x0 = true from hp)
 unfold raw
 refine E_if (show pre2 (x1, ((0 : Int), (x0, ()))) = true by simp only [pre2, Bool.and_eq_true, decide_eq_true_eq]; omega) (E_let ?_)
 have hd : fn2 (x1, ((0 : Int), (x0, ()))) = if 0 ≤ atG x0 x1 then .inl (atG x0 x1, ()) else .inr () := rfl
 rw [hd]
 have := findAt_ge (who := x1) x0.2.1 0 (Int.le_refl _)
 by_cases h : 0 ≤ atG x0 x1
 · rw [if_pos h]
 · rw [if_neg h, show atG x0 x1 = -1 by unfold atG at h ⊢; omega]
end spec_l5At
abbrev spec_l5At := atG
def tickM (t : Int) : List Int → List Int → List Int
 | m :: ms, b :: bs => if b < t - 50 then tickM t ms bs else m :: tickM t ms bs
 | _, _ => []
def tickB (t : Int) : List Int → List Int
 | [] => []
 | b :: bs => if b < t - 50 then tickB t bs else b :: tickB t bs
def tickG (t : Int) (bs : List Int) : Bool := bs.any fun b => decide (b < t - 50)
def GroupTick (g : Group) (t : Int) : Group := (cond (tickG t g.2.2.1) (upG g.1) g.1, (tickM t g.2.1 g.2.2.1, (tickB t g.2.2.1, g.2.2.2)))
theorem tickM_snoc {t m b : Int} : (ms bs : List Int) → ms.length = bs.length → tickM t (ms ++ [m]) (bs ++ [b]) = tickM t ms bs ++ (if b < t - 50 then [] else [m])
 | [], [], _ => by simp only [List.nil_append, tickM]
 | _ :: ms, _ :: bs, h => by
  simp only [List.cons_append, tickM, tickM_snoc ms bs (by simpa using h)]
  split <;> rfl
 | [], _ :: _, h => by cases h
 | _ :: _, [], h => by cases h
theorem tickB_snoc {t b : Int} : (bs : List Int) → tickB t (bs ++ [b]) = tickB t bs ++ (if b < t - 50 then [] else [b])
 | [] => by simp only [List.nil_append, tickB]
 | _ :: bs => by
  simp only [List.cons_append, tickB, tickB_snoc bs]
  split <;> rfl
theorem take_snoc {α : Type} {xs : List α} {n : Nat} (h : n < xs.length) (d : α) : xs.take (n + 1) = xs.take n ++ [xs.getD n d] := by
 rw [List.take_add_one, getD_get h, List.getElem?_eq_getElem h]; rfl
def tickP (g : Group) (t : Int) : Bool := groupS g && (decide (g.2.2.1.length = g.2.1.length) && (decide (0 ≤ t) && (decide (t ≤ 100000) && g.2.2.1.all fun b => decide (0 ≤ b) && decide (b ≤ 100000))))
theorem tickP_iff {g : Group} {t : Int} : tickP g t = true ↔ groupS g = true ∧ g.2.2.1.length = g.2.1.length ∧ 0 ≤ t ∧ t ≤ 100000 ∧ ∀ b ∈ g.2.2.1, 0 ≤ b ∧ b ≤ 100000 := by
 simp only [tickP, Bool.and_eq_true, decide_eq_true_eq, List.all_eq_true]
namespace spec_GroupTick
abbrev S4 : Type := (Int × (Bool × (Int × zt12)))
abbrev O4 : Type := (Bool × zt12)
noncomputable def pre4 : S4 → Bool := fun (x1, _, x3, x4, _, _, _, _, _, _, _, x12, x13, x14, _) => tickP x4 x1 && (groupS (0, (x12, (x13, (x14, ())))) && (decide (-1 ≤ x3) && (decide (x3 < (x4.2.1.length : Int)) && (decide (x3 < (x12.length : Int)) && (same (x12.take (x3 + 1).toNat) (x4.2.1.take (x3 + 1).toNat) && (decide (x13.length = x12.length) && same (x13.take (x3 + 1).toNat) (x4.2.2.1.take (x3 + 1).toNat)))))))
def mu4 : S4 → Nat := fun (_, _, x3, _) => (x3 + 1).toNat
def Q4 (s : S4) (o : O4) : Prop := match s, o with
 | (x1, x2, x3, x4, _, _, _, _, _, x10, _, x12, x13, x14, _), (o1, o4, _, _, _, _, _, o10, _, o12, o13, o14, _) =>
  o4 = x4 ∧ o10 = x10 ∧ o14 = x14 ∧ o1 = (x2 || tickG x1 (x4.2.2.1.take (x3 + 1).toNat)) ∧ o12 = tickM x1 (x4.2.1.take (x3 + 1).toNat) (x4.2.2.1.take (x3 + 1).toNat) ++ x12.drop (x3 + 1).toNat ∧ o13 = tickB x1 (x4.2.2.1.take (x3 + 1).toNat) ++ x13.drop (x3 + 1).toNat
noncomputable def raw4 (x1 : Int) (x2 : Bool) (x3 : Int) (x4 : Group) (x5 : Int) (x6 : Unit) (x7 : (List Int)) (x8 : (List Int)) (x9 : (List Int)) (x10 : Int) (x11 : Unit) (x12 : (List Int)) (x13 : (List Int)) (x14 : (List Int)) : Option ((Int × (Bool × (Int × zt12))) ⊕ (Bool × zt12)) :=
 if (decide ((0 : Int) ≤ x3)) = true then
 if (decide (x3 < ((List.length x4.2.2.1 : Nat) : Int))) = true then
 if (decide ((0 : Int) ≤ x3)) = true then
 if (decide (x3 < ((List.length x4.2.2.1 : Nat) : Int))) = true then
 if (decide ((List.getD x4.2.2.1 (Int.toNat x3) (0 : Int)) < x1)) = true then
 if (decide ((0 : Int) ≤ x3)) = true then
 if (decide (x3 < ((List.length x4.2.2.1 : Nat) : Int))) = true then
 if (decide ((50 : Int) < (IntKind.wrap .i64 (x1 - (List.getD x4.2.2.1 (Int.toNat x3) (0 : Int)))))) = true then
 if (spec_l5Without.pre (x10, (x12, (x13, (x14, x11)))) x3) = true then
 letB (without (x10, (x12, (x13, (x14, x11)))) x3) fun v1 =>
 some (.inl (x1, (true, ((IntKind.wrap .i64 (x3 - (1 : Int))), (x4, (x5, (x6, (x7, (x8, (x9, (v1.1, (v1.2.2.2.2, v1.2))))))))))))
 else
 none
 else
 if (decide ((0 : Int) ≤ x3)) = true then
 if (decide (x3 < ((List.length x4.2.2.1 : Nat) : Int))) = true then
 if (decide ((IntKind.wrap .i64 (x1 - (List.getD x4.2.2.1 (Int.toNat x3) (0 : Int)))) < (0 : Int))) = true then
 if (spec_l5Without.pre (x10, (x12, (x13, (x14, x11)))) x3) = true then
 letB (without (x10, (x12, (x13, (x14, x11)))) x3) fun v2 =>
 some (.inl (x1, (true, ((IntKind.wrap .i64 (x3 - (1 : Int))), (x4, (x5, (x6, (x7, (x8, (x9, (v2.1, (v2.2.2.2.2, v2.2))))))))))))
 else
 none
 else
 some (.inl (x1, (x2, ((IntKind.wrap .i64 (x3 - (1 : Int))), (x4, (x5, (x6, (x7, (x8, (x9, (x10, (x11, (x12, (x13, (x14, ())))))))))))))))
 else
 none
 else
 none
 else
 none
 else
 none
 else
 some (.inl (x1, (x2, ((IntKind.wrap .i64 (x3 - (1 : Int))), (x4, (x5, (x6, (x7, (x8, (x9, (x10, (x11, (x12, (x13, (x14, ())))))))))))))))
 else
 none
 else
 none
 else
 some (.inl (x1, (x2, ((IntKind.wrap .i64 (x3 - (1 : Int))), (x4, (x5, (x6, (x7, (x8, (x9, (x10, (x11, (x12, (x13, (x14, ())))))))))))))))
 else
 some (.inr (x2, (x4, (x5, (x6, (x7, (x8, (x9, (x10, (x11, (x12, (x13, (x14, ())))))))))))))
theorem wp4 : ∀ s, pre4 s = true → Wp ((fun (x : S4) => raw4 x.1 x.2.1 x.2.2.1 x.2.2.2.1 x.2.2.2.2.1 x.2.2.2.2.2.1 x.2.2.2.2.2.2.1 x.2.2.2.2.2.2.2.1 x.2.2.2.2.2.2.2.2.1 x.2.2.2.2.2.2.2.2.2.1 x.2.2.2.2.2.2.2.2.2.2.1 x.2.2.2.2.2.2.2.2.2.2.2.1 x.2.2.2.2.2.2.2.2.2.2.2.2.1 x.2.2.2.2.2.2.2.2.2.2.2.2.2.1) s) (Step pre4 mu4 Q4 s) := by
 rintro ⟨x1, x2, x3, x4, x5, ⟨⟩, x7, x8, x9, x10, ⟨⟩, x12, x13, x14, ⟨⟩⟩ hp
 simp only [pre4, Bool.and_eq_true, decide_eq_true_eq, same_true] at hp
 obtain ⟨htp, hgs, h3, h4, h5, h6, h7, h8⟩ := hp
 obtain ⟨t1, t2, t3, t4, t5⟩ := tickP_iff.1 htp
 have hg := groupS_iff.1 hgs
 have ht := groupS_iff.1 t1
 simp only [] at hg
 show Wp (raw4 x1 x2 x3 x4 x5 () x7 x8 x9 x10 () x12 x13 x14) _
 unfold raw4
 by_cases h0 : 0 ≤ x3
 · have hn1 : x3.toNat < x4.2.1.length := by omega
   have hn2 : x3.toNat < x4.2.2.1.length := by omega
   have hn3 : x3.toNat < x12.length := by omega
   have hn4 : x3.toNat < x13.length := by omega
   have es : (x3 + 1).toNat = x3.toNat + 1 := by omega
   have e1 := w64 (n := x3 - 1) (by omega) (by omega)
   have em : (x3 - 1 + 1).toNat = x3.toNat := by omega
   have hb := t5 _ (List.getElem_mem hn2)
   have eb : x4.2.2.1.getD x3.toNat (0 : Int) = x4.2.2.1[x3.toNat] := getD_get hn2
   rw [es] at h6 h8
   have k12 : x12.take x3.toNat = x4.2.1.take x3.toNat := by
    have := congrArg (List.take x3.toNat) h6
    rwa [List.take_take, List.take_take, Nat.min_eq_left (by omega)] at this
   have k13 : x13.take x3.toNat = x4.2.2.1.take x3.toNat := by
    have := congrArg (List.take x3.toNat) h8
    rwa [List.take_take, List.take_take, Nat.min_eq_left (by omega)] at this
   have ew := w64 (n := x1 - x4.2.2.1[x3.toNat]) (by omega) (by omega)
   have hl : (x4.2.1.take x3.toNat).length = (x4.2.2.1.take x3.toNat).length := by rw [List.length_take, List.length_take]; omega
   -- kept
   have stay : ¬ x4.2.2.1[x3.toNat] < x1 - 50 → Step pre4 mu4 Q4 (x1, x2, x3, x4, x5, (), x7, x8, x9, x10, (), x12, x13, x14, ()) (.inl (x1, (x2, ((IntKind.wrap .i64 (x3 - 1)), (x4, (x5, ((), (x7, (x8, (x9, (x10, ((), (x12, (x13, (x14, ()))))))))))))))) := by
    intro hk
    rw [e1]
    refine ⟨?_, by simp only [mu4]; omega, ?_⟩
    · simp only [pre4, Bool.and_eq_true, decide_eq_true_eq, same_true, em]
      exact ⟨htp, hgs, by omega, by omega, by omega, k12, h7, k13⟩
    · rintro ⟨o1, o4, o5, ⟨⟩, o7, o8, o9, o10, ⟨⟩, o12, o13, o14, ⟨⟩⟩ ⟨q1, q2, q3, q4, q5, q6⟩
      refine ⟨q1, q2, q3, ?_, ?_, ?_⟩
      · rw [q4, em, es, take_snoc hn2 0, eb]
        simp only [tickG, List.any_append, List.any_cons, List.any_nil, decide_eq_false hk, Bool.or_false]
      · rw [q5, em, es, take_snoc hn2 0, take_snoc hn1 0, tickM_snoc _ _ hl, eb, if_neg hk, List.append_assoc, List.drop_eq_getElem_cons hn3]
        have : x12[x3.toNat] = x4.2.1.getD x3.toNat 0 := by
         have : (x12.take (x3.toNat + 1)).getD x3.toNat 0 = (x4.2.1.take (x3.toNat + 1)).getD x3.toNat 0 := by rw [h6]
         rw [take_snoc hn3 0, take_snoc hn1 0, k12, getD_get hn3] at this
         have hlen : (x4.2.1.take x3.toNat).length = x3.toNat := by rw [List.length_take]; omega
         simpa [List.getD_eq_getElem?_getD, List.getElem?_append_right, hlen] using this
        rw [this]; rfl
      · rw [q6, em, es, take_snoc hn2 0, tickB_snoc, eb, if_neg hk, List.append_assoc, List.drop_eq_getElem_cons hn4]
        have : x13[x3.toNat] = x4.2.2.1[x3.toNat] := by
         have : (x13.take (x3.toNat + 1)).getD x3.toNat 0 = (x4.2.2.1.take (x3.toNat + 1)).getD x3.toNat 0 := by rw [h8]
         rw [take_snoc hn4 0, take_snoc hn2 0, k13, getD_get hn4] at this
         have hlen : (x4.2.2.1.take x3.toNat).length = x3.toNat := by rw [List.length_take]; omega
         rw [eb] at this
         rw [← eb]
         simpa [List.getD_eq_getElem?_getD, List.getElem?_append_right, hlen] using this
        rw [this]; rfl
   -- taken out
   have take : x4.2.2.1[x3.toNat] < x1 - 50 → Step pre4 mu4 Q4 (x1, x2, x3, x4, x5, (), x7, x8, x9, x10, (), x12, x13, x14, ()) (.inl (x1, (true, ((IntKind.wrap .i64 (x3 - 1)), (x4, (x5, ((), (x7, (x8, (x9, ((without (x10, (x12, (x13, (x14, ())))) x3).1, ((without (x10, (x12, (x13, (x14, ())))) x3).2.2.2.2, (without (x10, (x12, (x13, (x14, ())))) x3).2)))))))))))) := by
    intro hk
    rw [e1]
    have gs' : groupS (without (0, (x12, (x13, (x14, ())))) x3) = true := groupS_without hgs
    refine ⟨?_, by simp only [mu4]; omega, ?_⟩
    · show pre4 (x1, (true, (x3 - 1, (x4, (x5, ((), (x7, (x8, (x9, (x10, ((), (x12.eraseIdx x3.toNat, (x13.eraseIdx x3.toNat, (x14, ())))))))))))))) = true
      simp only [pre4, Bool.and_eq_true, decide_eq_true_eq, same_true, em]
      refine ⟨htp, gs', by omega, by omega, ?_, ?_, ?_, ?_⟩
      · rw [List.length_eraseIdx_of_lt hn3]; omega
      · rw [List.eraseIdx_eq_take_drop_succ, List.take_append_of_le_length (by rw [List.length_take]; omega), List.take_take, Nat.min_self]; exact k12
      · rw [List.length_eraseIdx_of_lt hn3, List.length_eraseIdx_of_lt hn4]; omega
      · rw [List.eraseIdx_eq_take_drop_succ, List.take_append_of_le_length (by rw [List.length_take]; omega), List.take_take, Nat.min_self]; exact k13
    · rintro ⟨o1, o4, o5, ⟨⟩, o7, o8, o9, o10, ⟨⟩, o12, o13, o14, ⟨⟩⟩ ⟨q1, q2, q3, q4, q5, q6⟩
      refine ⟨q1, q2, q3, ?_, ?_, ?_⟩
      · rw [q4, em, es, take_snoc hn2 0, eb]
        simp only [tickG, List.any_append, List.any_cons, List.any_nil, decide_eq_true hk, Bool.or_true, Bool.true_or]
      · rw [q5, em, es, take_snoc hn2 0, take_snoc hn1 0, tickM_snoc _ _ hl, eb, if_pos hk, List.append_nil]
        show _ ++ List.drop x3.toNat (x12.eraseIdx x3.toNat) = _
        rw [List.eraseIdx_eq_take_drop_succ, List.drop_append_of_le_length (by rw [List.length_take]; omega), List.drop_take, Nat.sub_self]; rfl
      · rw [q6, em, es, take_snoc hn2 0, tickB_snoc, eb, if_pos hk, List.append_nil]
        show _ ++ List.drop x3.toNat (x13.eraseIdx x3.toNat) = _
        rw [List.eraseIdx_eq_take_drop_succ, List.drop_append_of_le_length (by rw [List.length_take]; omega), List.drop_take, Nat.sub_self]; rfl
   have hpw : spec_l5Without.pre (x10, (x12, (x13, (x14, ())))) x3 = true := by
    simp only [spec_l5Without.pre, Bool.and_eq_true, decide_eq_true_eq]
    exact ⟨hgs, h0, by omega⟩
   rw [eb]
   refine W_if (decide_eq_true h0) (W_if (decide_eq_true (by omega)) (W_if (decide_eq_true h0) (W_if (decide_eq_true (by omega)) (W_ite (fun c => ?_) fun c => ?_))))
   · rw [decide_eq_true_eq] at c
     refine W_if (decide_eq_true h0) (W_if (decide_eq_true (by omega)) (W_ite (fun d => ?_) fun d => ?_))
     · rw [decide_eq_true_eq, ew] at d
       exact W_if hpw (W_let (W_some (take (by omega))))
     · rw [decide_eq_true_eq, ew] at d
       exact W_if (decide_eq_true h0) (W_if (decide_eq_true (by omega)) (W_else (by rw [decide_eq_true_eq, ew]; omega) (W_some (stay (by omega)))))
   · rw [decide_eq_true_eq] at c
     exact W_some (stay (by omega))
 · refine W_else (by rw [decide_eq_true_eq]; exact h0) (W_some ?_)
   have : (x3 + 1).toNat = 0 := by omega
   simp only [Step, Q4, this, List.take_zero, List.drop_zero]
   exact ⟨trivial, trivial, trivial, by simp [tickG], rfl, rfl⟩
noncomputable def fn4 : S4 → O4 := runF (fun (x : S4) => raw4 x.1 x.2.1 x.2.2.1 x.2.2.2.1 x.2.2.2.2.1 x.2.2.2.2.2.1 x.2.2.2.2.2.2.1 x.2.2.2.2.2.2.2.1 x.2.2.2.2.2.2.2.2.1 x.2.2.2.2.2.2.2.2.2.1 x.2.2.2.2.2.2.2.2.2.2.1 x.2.2.2.2.2.2.2.2.2.2.2.1 x.2.2.2.2.2.2.2.2.2.2.2.2.1 x.2.2.2.2.2.2.2.2.2.2.2.2.2.1) mu4
theorem ok4 (x1 : Int) (x2 : Bool) (x3 : Int) (x4 : Group) (x5 : Int) (x6 : Unit) (x7 x8 x9 : List Int) (x10 : Int) (x11 : Unit) (x12 x13 x14 : List Int) (hp : pre4 (x1, (x2, (x3, (x4, (x5, (x6, (x7, (x8, (x9, (x10, (x11, (x12, (x13, (x14, ())))))))))))))) = true) :
 Rounds pre4 mu4 fn4 (x1, (x2, (x3, (x4, (x5, (x6, (x7, (x8, (x9, (x10, (x11, (x12, (x13, (x14, ())))))))))))))) (raw4 x1 x2 x3 x4 x5 x6 x7 x8 x9 x10 x11 x12 x13 x14) := runF_ok wp4 hp
def pre (g : Group) (t : Int) : Bool := tickP g t
abbrev wf (x0 : Group) (x1 : Int) : Prop := wfA [(.val zk14 .f), (.val (.int .i64) .f)] (x0, (x1, ()))
noncomputable def raw (x0 : Group) (x1 : Int) : Option (Unit × (Group × Unit)) :=
 if (spec_l5Copy.pre x0) = true then
 letB (spec_l5Copy x0) fun v1 =>
 if (spec_GroupTick.pre4 (x1, (false, ((IntKind.wrap .i64 (((List.length x0.2.1 : Nat) : Int) - (1 : Int))), (x0, ((0 : Int), ((), (([] : List Int), (([] : List Int), (([] : List Int), (v1.1, (v1.2.2.2.2, v1.2)))))))))))) = true then
 letB (spec_GroupTick.fn4 (x1, (false, ((IntKind.wrap .i64 (((List.length x0.2.1 : Nat) : Int) - (1 : Int))), (x0, ((0 : Int), ((), (([] : List Int), (([] : List Int), (([] : List Int), (v1.1, (v1.2.2.2.2, v1.2)))))))))))) fun v2 =>
 if v2.1 = true then
 if (spec_l5Up.pre v2.2.1.1) = true then
 letB (upG v2.2.1.1) fun v3 =>
 some ((), ((v3, (v2.2.2.2.2.2.2.2.2.2.1, (v2.2.2.2.2.2.2.2.2.2.2.1, (v2.2.2.2.2.2.2.2.2.2.2.2.1, v2.2.2.2.2.2.2.2.2.1)))), ()))
 else
 none
 else
 some ((), ((v2.2.2.2.2.2.2.2.1, (v2.2.2.2.2.2.2.2.2.2.1, (v2.2.2.2.2.2.2.2.2.2.2.1, (v2.2.2.2.2.2.2.2.2.2.2.2.1, v2.2.2.2.2.2.2.2.2.1)))), ()))
 else
 none
 else
 none
theorem eq (x0 : Group) (x1 : Int) (_ : wf x0 x1) (hp : pre x0 x1 = true) : raw x0 x1 = some ((), (GroupTick x0 x1, ())) := by
 obtain ⟨t1, t2, t3, t4, t5⟩ := tickP_iff.1 (show tickP x0 x1 = true from hp)
 have hg := groupS_iff.1 t1
 refine W_eq ?_
 unfold raw
 have e1 := w64 (n := (x0.2.1.length : Int) - 1) (by omega) (by omega)
 have en : ((x0.2.1.length : Int) - 1 + 1).toNat = x0.2.1.length := by omega
 have hq : pre4 (x1, (false, ((IntKind.wrap .i64 ((x0.2.1.length : Int) - 1)), (x0, ((0 : Int), ((), (([] : List Int), (([] : List Int), (([] : List Int), ((spec_l5Copy x0).1, ((spec_l5Copy x0).2.2.2.2, (spec_l5Copy x0).2))))))))))) = true := by
  rw [e1]
  show (tickP x0 x1 && (groupS (0, (x0.2.1, (x0.2.2.1, (x0.2.2.2.1, ())))) && (decide (-1 ≤ (x0.2.1.length : Int) - 1) && (decide ((x0.2.1.length : Int) - 1 < (x0.2.1.length : Int)) && (decide ((x0.2.1.length : Int) - 1 < (x0.2.1.length : Int)) && (same (x0.2.1.take ((x0.2.1.length : Int) - 1 + 1).toNat) (x0.2.1.take ((x0.2.1.length : Int) - 1 + 1).toNat) && (decide (x0.2.2.1.length = x0.2.1.length) && same (x0.2.2.1.take ((x0.2.1.length : Int) - 1 + 1).toNat) (x0.2.2.1.take ((x0.2.1.length : Int) - 1 + 1).toNat)))))))) = true
  simp only [same_self, Bool.and_true, Bool.and_eq_true, decide_eq_true_eq, Bool.true_and]
  exact ⟨hp, t1, by omega, by omega, by omega, t2⟩
 refine W_if (show spec_l5Copy.pre x0 = true from t1) (W_let (W_if hq (W_fact (runF_q wp4 hq : Q4 _ (fn4 _)) ?_)))
 rintro ⟨o1, o4, o5, ⟨⟩, o7, o8, o9, o10, ⟨⟩, o12, o13, o14, ⟨⟩⟩ ⟨q1, q2, q3, q4, q5, q6⟩
 simp only [e1, en] at q4 q5 q6
 have q4 : o1 = tickG x1 x0.2.2.1 := by rw [q4, Bool.false_or, List.take_of_length_le (by omega)]
 have q5 : o12 = tickM x1 x0.2.1 x0.2.2.1 := by rw [q5, List.take_of_length_le (Nat.le_refl _), List.take_of_length_le (by omega)]; show _ ++ x0.2.1.drop _ = _; rw [List.drop_eq_nil_of_le (Nat.le_refl _), List.append_nil]
 have q6 : o13 = tickB x1 x0.2.2.1 := by rw [q6, List.take_of_length_le (by omega)]; show _ ++ x0.2.2.1.drop _ = _; rw [List.drop_eq_nil_of_le (by omega), List.append_nil]
 have q3 : o14 = x0.2.2.2.1 := q3
 have q2 : o10 = x0.1 := q2
 subst q2 q3 q4 q5 q6
 rw [q1]
 unfold GroupTick
 cases tickG x1 x0.2.2.1
 · exact W_else Bool.false_ne_true (W_some rfl)
 · exact W_if rfl (W_if (show spec_l5Up.pre _ = true from decide_eq_true (Int.le_refl _)) (W_some rfl))
end spec_GroupTick
abbrev spec_GroupTick := GroupTick
def insAt (who : Int) : List Int → List Int → Nat
 | m :: ms, _ :: bs => if m < who then insAt who ms bs + 1 else 0
 | _, _ => 0
theorem insAt_le {who : Int} : (ms bs : List Int) → insAt who ms bs ≤ ms.length ∧ insAt who ms bs ≤ bs.length
 | [], _ => ⟨Nat.zero_le _, Nat.zero_le _⟩
 | _ :: _, [] => ⟨Nat.zero_le _, Nat.zero_le _⟩
 | m :: ms, b :: bs => by
  have := insAt_le (who := who) ms bs
  simp only [insAt, List.length_cons]
  split <;> omega
def insL (k : Nat) (x : Int) (l : List Int) : List Int := l.take k ++ x :: l.drop k
def GroupJoin (g : Group) (who t : Int) : Group :=
 if impl_within who 0 3 = true then
  if 0 ≤ atG g who then (if atG g who < (g.2.2.1.length : Int) then (g.1, (g.2.1, (g.2.2.1.modify (atG g who).toNat (fun _ => t), g.2.2.2))) else g)
  else (upG g.1, (insL (insAt who g.2.1 g.2.2.1) who g.2.1, (insL (insAt who g.2.1 g.2.2.1) t g.2.2.1, g.2.2.2)))
 else g
namespace spec_GroupJoin
abbrev S10 : Type := (Int × (Int × (Int × zt12)))
abbrev O10 : Type := (Int × (Int × (Int × zt12)))
def pre10 : S10 → Bool := fun (_, _, x3, x4, _) => groupS x4 && (decide (0 ≤ x3) && (decide (x3 ≤ (x4.2.1.length : Int)) && decide (x3 ≤ (x4.2.2.1.length : Int))))
def fn10 : S10 → O10 := fun (x1, x2, x3, x4, x5) => (x1, x2, x3 + (insAt x1 (x4.2.1.drop x3.toNat) (x4.2.2.1.drop x3.toNat) : Int), x4, x5)
def mu10 : S10 → Nat := fun (_, _, x3, x4, _) => x4.2.1.length - x3.toNat
def pre (g : Group) (_ _ : Int) : Bool := groupS g
noncomputable def raw10 (x1 : Int) (x2 : Int) (x3 : Int) (x4 : Group) (x5 : Int) (x6 : Unit) (x7 : (List Int)) (x8 : (List Int)) (x9 : (List Int)) (x10 : Int) (x11 : Unit) (x12 : (List Int)) (x13 : (List Int)) (x14 : (List Int)) : Option ((Int × (Int × (Int × zt12))) ⊕ (Int × (Int × (Int × zt12)))) :=
 if (decide (x3 < ((List.length x4.2.1 : Nat) : Int))) = true then
 if (decide (x3 < ((List.length x4.2.2.1 : Nat) : Int))) = true then
 if (decide ((0 : Int) ≤ x3)) = true then
 if (decide (x3 < ((List.length x4.2.1 : Nat) : Int))) = true then
 if (decide ((List.getD x4.2.1 (Int.toNat x3) (0 : Int)) < x1)) = true then
 some (.inl (x1, (x2, ((IntKind.wrap .i64 (x3 + (1 : Int))), (x4, (x5, (x6, (x7, (x8, (x9, (x10, (x11, (x12, (x13, (x14, ())))))))))))))))
 else
 some (.inr (x1, (x2, (x3, (x4, (x5, (x6, (x7, (x8, (x9, (x10, (x11, (x12, (x13, (x14, ())))))))))))))))
 else
 none
 else
 none
 else
 some (.inr (x1, (x2, (x3, (x4, (x5, (x6, (x7, (x8, (x9, (x10, (x11, (x12, (x13, (x14, ())))))))))))))))
 else
 some (.inr (x1, (x2, (x3, (x4, (x5, (x6, (x7, (x8, (x9, (x10, (x11, (x12, (x13, (x14, ())))))))))))))))
abbrev wf (x0 : Group) (x1 : Int) (x2 : Int) : Prop := wfA [(.val zk14 .f), (.val (.int .i64) .f), (.val (.int .i64) .f)] (x0, (x1, (x2, ())))
noncomputable def raw (x0 : Group) (x1 : Int) (x2 : Int) : Option (Unit × (Group × Unit)) :=
 if (spec_l5Copy.pre x0) = true then
 letB (impl_within x1 (0 : Int) (3 : Int)) fun v1 =>
 if (!v1) = true then
 letB (spec_l5Copy x0) fun v2 =>
 some ((), (v2, ()))
 else
 if (spec_l5At.pre x0 x1) = true then
 letB (atG x0 x1) fun v3 =>
 if (decide ((0 : Int) ≤ v3)) = true then
 letB (spec_l5Copy x0) fun v4 =>
 if (decide (v3 < ((List.length v4.2.2.1 : Nat) : Int))) = true then
 if (decide ((0 : Int) ≤ v3)) = true then
 if (decide (v3 < ((List.length v4.2.2.1 : Nat) : Int))) = true then
 some ((), ((v4.1, (v4.2.1, ((List.modify v4.2.2.1 (Int.toNat v3) (fun z => x2)), v4.2.2.2))), ()))
 else
 none
 else
 none
 else
 some ((), (v4, ()))
 else
 letB (spec_l5Copy x0) fun v5 =>
 if (spec_GroupJoin.pre10 (x1, (x2, ((0 : Int), (x0, ((0 : Int), ((), (([] : List Int), (([] : List Int), (([] : List Int), (v5.1, (v5.2.2.2.2, v5.2)))))))))))) = true then
 if (decide ((0 : Int) ≤ (0 : Int))) = true then
 letB (spec_GroupJoin.fn10 (x1, (x2, ((0 : Int), (x0, ((0 : Int), ((), (([] : List Int), (([] : List Int), (([] : List Int), (v5.1, (v5.2.2.2.2, v5.2)))))))))))) fun v6 =>
 if (decide ((0 : Int) ≤ v6.2.2.1)) = true then
 if (decide (v6.2.2.1 ≤ ((List.length v6.2.2.2.1.2.1 : Nat) : Int))) = true then
 if (decide (List.length ([] : List Int) + List.length (dropTake (Int.toNat (0 : Int)) (Int.toNat v6.2.2.1) v6.2.2.2.1.2.1) ≤ lim)) = true then
 if (decide (List.length (List.append ([] : List Int) (dropTake (Int.toNat (0 : Int)) (Int.toNat v6.2.2.1) v6.2.2.2.1.2.1)) + List.length (v6.1 :: ([] : List Int)) ≤ lim)) = true then
 if (decide ((0 : Int) ≤ v6.2.2.1)) = true then
 if (decide (v6.2.2.1 ≤ ((List.length v6.2.2.2.1.2.1 : Nat) : Int))) = true then
 if (decide (((List.length v6.2.2.2.1.2.1 : Nat) : Int) ≤ ((List.length v6.2.2.2.1.2.1 : Nat) : Int))) = true then
 if (decide (List.length (List.append (List.append ([] : List Int) (dropTake (Int.toNat (0 : Int)) (Int.toNat v6.2.2.1) v6.2.2.2.1.2.1)) (v6.1 :: ([] : List Int))) + List.length (dropTake (Int.toNat v6.2.2.1) (Int.toNat ((List.length v6.2.2.2.1.2.1 : Nat) : Int)) v6.2.2.2.1.2.1) ≤ lim)) = true then
 if (decide ((0 : Int) ≤ (0 : Int))) = true then
 if (decide ((0 : Int) ≤ v6.2.2.1)) = true then
 if (decide (v6.2.2.1 ≤ ((List.length v6.2.2.2.1.2.2.1 : Nat) : Int))) = true then
 if (decide (List.length ([] : List Int) + List.length (dropTake (Int.toNat (0 : Int)) (Int.toNat v6.2.2.1) v6.2.2.2.1.2.2.1) ≤ lim)) = true then
 if (decide (List.length (List.append ([] : List Int) (dropTake (Int.toNat (0 : Int)) (Int.toNat v6.2.2.1) v6.2.2.2.1.2.2.1)) + List.length (v6.2.1 :: ([] : List Int)) ≤ lim)) = true then
 if (decide ((0 : Int) ≤ v6.2.2.1)) = true then
 if (decide (v6.2.2.1 ≤ ((List.length v6.2.2.2.1.2.2.1 : Nat) : Int))) = true then
 if (decide (((List.length v6.2.2.2.1.2.2.1 : Nat) : Int) ≤ ((List.length v6.2.2.2.1.2.2.1 : Nat) : Int))) = true then
 if (decide (List.length (List.append (List.append ([] : List Int) (dropTake (Int.toNat (0 : Int)) (Int.toNat v6.2.2.1) v6.2.2.2.1.2.2.1)) (v6.2.1 :: ([] : List Int))) + List.length (dropTake (Int.toNat v6.2.2.1) (Int.toNat ((List.length v6.2.2.2.1.2.2.1 : Nat) : Int)) v6.2.2.2.1.2.2.1) ≤ lim)) = true then
 if (spec_l5Up.pre v6.2.2.2.1.1) = true then
 letB (upG v6.2.2.2.1.1) fun v7 =>
 some ((), ((v7, ((List.append (List.append (List.append ([] : List Int) (dropTake (Int.toNat (0 : Int)) (Int.toNat v6.2.2.1) v6.2.2.2.1.2.1)) (v6.1 :: ([] : List Int))) (dropTake (Int.toNat v6.2.2.1) (Int.toNat ((List.length v6.2.2.2.1.2.1 : Nat) : Int)) v6.2.2.2.1.2.1)), ((List.append (List.append (List.append ([] : List Int) (dropTake (Int.toNat (0 : Int)) (Int.toNat v6.2.2.1) v6.2.2.2.1.2.2.1)) (v6.2.1 :: ([] : List Int))) (dropTake (Int.toNat v6.2.2.1) (Int.toNat ((List.length v6.2.2.2.1.2.2.1 : Nat) : Int)) v6.2.2.2.1.2.2.1)), (v6.2.2.2.2.2.2.2.2.2.2.2.2.2.1, v6.2.2.2.2.2.2.2.2.2.2.1)))), ()))
 else
 none
 else
 none
 else
 none
 else
 none
 else
 none
 else
 none
 else
 none
 else
 none
 else
 none
 else
 none
 else
 none
 else
 none
 else
 none
 else
 none
 else
 none
 else
 none
 else
 none
 else
 none
 else
 none
 else
 none
 else
 none
 else
 none
theorem ok10 (x1 x2 x3 : Int) (x4 : Group) (x5 : Int) (x6 : Unit) (x7 x8 x9 : List Int) (x10 : Int) (x11 : Unit) (x12 x13 x14 : List Int) (hp : pre10 (x1, (x2, (x3, (x4, (x5, (x6, (x7, (x8, (x9, (x10, (x11, (x12, (x13, (x14, ())))))))))))))) = true) :
 Rounds pre10 mu10 fn10 (x1, (x2, (x3, (x4, (x5, (x6, (x7, (x8, (x9, (x10, (x11, (x12, (x13, (x14, ())))))))))))))) (raw10 x1 x2 x3 x4 x5 x6 x7 x8 x9 x10 x11 x12 x13 x14) := by
 simp only [pre10, Bool.and_eq_true, decide_eq_true_eq] at hp
 obtain ⟨hs, h1, h2, h3⟩ := hp
 have hg := groupS_iff.1 hs
 have stop : (insAt x1 (x4.2.1.drop x3.toNat) (x4.2.2.1.drop x3.toNat)) = 0 → Rounds pre10 mu10 fn10 (x1, (x2, (x3, (x4, (x5, (x6, (x7, (x8, (x9, (x10, (x11, (x12, (x13, (x14, ())))))))))))))) (some (.inr (x1, (x2, (x3, (x4, (x5, (x6, (x7, (x8, (x9, (x10, (x11, (x12, (x13, (x14, ())))))))))))))))) := by
  intro h
  simp only [Rounds, fn10, h]
  simp
 unfold raw10
 by_cases a1 : x3 < (x4.2.1.length : Int)
 · by_cases a2 : x3 < (x4.2.2.1.length : Int)
   · have hn : x3.toNat < x4.2.1.length := by omega
     have hn2 : x3.toNat < x4.2.2.1.length := by omega
     have e1 := List.drop_eq_getElem_cons hn
     have e2 := List.drop_eq_getElem_cons hn2
     refine R_if (decide_eq_true a1) (R_if (decide_eq_true a2) (R_if (decide_eq_true h1) (R_if (decide_eq_true a1) ?_)))
     rw [getD_get hn, w64 (n := x3 + 1) (by omega) (by omega)]
     by_cases c : x4.2.1[x3.toNat] < x1
     · refine R_if (decide_eq_true c) ⟨?_, by simp only [mu10]; omega, ?_⟩
       · simp only [pre10, Bool.and_eq_true, decide_eq_true_eq]; exact ⟨hs, by omega, by omega, by omega⟩
       · simp only [fn10]
         rw [e1, e2, show (x3 + 1).toNat = x3.toNat + 1 by omega]
         simp only [insAt, c, if_true]
         rw [show x3 + 1 + ((insAt x1 (List.drop (x3.toNat + 1) x4.2.1) (List.drop (x3.toNat + 1) x4.2.2.1) : Nat) : Int) = x3 + ((insAt x1 (List.drop (x3.toNat + 1) x4.2.1) (List.drop (x3.toNat + 1) x4.2.2.1) + 1 : Nat) : Int) by omega]
     · refine R_else (by rw [decide_eq_true_eq]; exact c) (stop ?_)
       rw [e1, e2]
       simp only [insAt, c, if_false]
   · refine R_if (decide_eq_true a1) (R_else (by rw [decide_eq_true_eq]; exact a2) (stop ?_))
     rw [show x4.2.2.1.drop x3.toNat = [] from List.drop_eq_nil_of_le (by omega)]
     cases x4.2.1.drop x3.toNat <;> rfl
 · refine R_else (by rw [decide_eq_true_eq]; exact a1) (stop ?_)
   rw [show x4.2.1.drop x3.toNat = [] from List.drop_eq_nil_of_le (by omega)]
   rfl
theorem ins_parts {l : List Int} {x : Int} {k : Nat} : List.append (List.append (List.append ([] : List Int) (dropTake (Int.toNat 0) k l)) (x :: ([] : List Int))) (dropTake k ((l.length : Int)).toNat l) = insL k x l := by
 show (List.take (k - 0) (List.drop 0 l) ++ [x]) ++ List.take (((l.length : Int)).toNat - k) (List.drop k l) = _
 rw [List.take_of_length_le (l := List.drop k l) (by rw [List.length_drop]; omega), List.append_assoc]; rfl
theorem eq (x0 : Group) (x1 x2 : Int) (_ : wf x0 x1 x2) (hp : pre x0 x1 x2 = true) : raw x0 x1 x2 = some ((), (GroupJoin x0 x1 x2, ())) := by
 have hs : groupS x0 = true := hp
 have hg := groupS_iff.1 hs
 unfold raw GroupJoin
 refine E_if (show spec_l5Copy.pre x0 = true from hs) (E_let ?_)
 cases hin : impl_within x1 0 3
 · rfl
 refine E_else (by decide) (E_if (show spec_l5At.pre x0 x1 = true from hs) (E_let ?_))
 rw [if_pos rfl]
 by_cases h0 : 0 ≤ atG x0 x1
 · have := findAt_lt (who := x1) x0.2.1 0 (Int.le_refl _) h0
   refine E_if (decide_eq_true h0) (E_let ?_)
   rw [if_pos h0]
   by_cases h1 : atG x0 x1 < (x0.2.2.1.length : Int)
   · rw [if_pos h1]
     exact E_if (decide_eq_true h1) (E_if (decide_eq_true h0) (E_if (decide_eq_true h1) rfl))
   · rw [if_neg h1]
     exact E_else (by rw [decide_eq_true_eq]; exact h1) rfl
 · rw [if_neg h0]
   refine E_else (by rw [decide_eq_true_eq]; exact h0) (E_let (E_if (show pre10 _ = true by simp only [pre10, Bool.and_eq_true, decide_eq_true_eq]; exact ⟨hs, by omega, by omega, by omega⟩) (E_if (by decide) (E_let ?_))))
   have hl := insAt_le (who := x1) x0.2.1 x0.2.2.1
   generalize hk : insAt x1 x0.2.1 x0.2.2.1 = k at hl ⊢
   have hf : fn10 (x1, (x2, ((0 : Int), (x0, ((0 : Int), ((), (([] : List Int), (([] : List Int), (([] : List Int), ((spec_l5Copy x0).1, ((spec_l5Copy x0).2.2.2.2, (spec_l5Copy x0).2))))))))))) = (x1, (x2, ((k : Int), (x0, ((0 : Int), ((), (([] : List Int), (([] : List Int), (([] : List Int), (x0.1, ((), (x0.2.1, (x0.2.2.1, (x0.2.2.2.1, ())))))))))))))) := by
    simp only [fn10, Int.toNat_zero, List.drop_zero, hk, Int.zero_add]; rfl
   rw [hf]
   simp only []
   rw [ins_parts, ins_parts]
   refine E_if (decide_eq_true (by omega)) (E_if (decide_eq_true (by omega)) ?_)
   repeat (first | (with_reducible refine E_let ?_) | (with_reducible refine E_if ?hs ?_; case hs => (first | assumption | (simp only [decide_eq_true_eq, Bool.not_eq_true', decide_eq_false_iff_not, Bool.not_eq_true, List.length_append, List.append_eq, List.length_cons, List.length_nil, dropTake, List.length_take, List.length_drop, List.length_modify, List.length_eraseIdx, lim]; omega) | (simp only [decide_eq_true_eq]; omega))) | (with_reducible refine E_else ?hs ?_; case hs => (first | assumption | (simp only [decide_eq_true_eq, Bool.not_eq_true', decide_eq_false_iff_not, Bool.not_eq_true, List.length_append, List.append_eq, List.length_cons, List.length_nil, dropTake, List.length_take, List.length_drop, List.length_modify, List.length_eraseIdx, lim]; omega) | (simp only [decide_eq_true_eq]; omega))))
   refine E_if (show spec_l5Up.pre _ = true from decide_eq_true (Int.le_refl _)) (E_let ?_)
   rfl
end spec_GroupJoin
abbrev spec_GroupJoin := GroupJoin
def GroupLeave (g : Group) (who : Int) : Group := if 0 ≤ atG g who ∧ impl_within who 0 3 = true then (upG g.1, (without g (atG g who)).2) else g
namespace spec_GroupLeave
def pre (g : Group) (_ : Int) : Bool := groupS g
abbrev wf (x0 : Group) (x1 : Int) : Prop := wfA [(.val zk14 .f), (.val (.int .i64) .f)] (x0, (x1, ()))
noncomputable def raw (x0 : Group) (x1 : Int) : Option (Unit × (Group × Unit)) :=
 if (spec_l5At.pre x0 x1) = true then
 letB (atG x0 x1) fun v1 =>
 if (decide (v1 < (0 : Int))) = true then
 if (spec_l5Copy.pre x0) = true then
 letB (spec_l5Copy x0) fun v2 =>
 some ((), (v2, ()))
 else
 none
 else
 letB (impl_within x1 (0 : Int) (3 : Int)) fun v3 =>
 if (!v3) = true then
 if (spec_l5Copy.pre x0) = true then
 letB (spec_l5Copy x0) fun v4 =>
 some ((), (v4, ()))
 else
 none
 else
 if (spec_l5Without.pre x0 v1) = true then
 if (spec_l5Up.pre x0.1) = true then
 letB (upG x0.1) fun v5 =>
 letB (without x0 v1) fun v6 =>
 some ((), ((v5, v6.2), ()))
 else
 none
 else
 none
 else
 none
theorem eq (x0 : Group) (x1 : Int) (_ : wf x0 x1) (hp : pre x0 x1 = true) : raw x0 x1 = some ((), (GroupLeave x0 x1, ())) := by
 have hs : groupS x0 = true := hp
 unfold raw
 refine E_if (show spec_l5At.pre x0 x1 = true from hs) (E_let ?_)
 by_cases h0 : 0 ≤ atG x0 x1
 · have := findAt_lt (who := x1) x0.2.1 0 (Int.le_refl _) h0
   refine E_else (by rw [decide_eq_true_eq]; omega) (E_let ?_)
   cases hin : impl_within x1 0 3
   · rw [show GroupLeave x0 x1 = x0 from if_neg (by rw [hin]; simp)]
     exact E_if rfl (E_if (show spec_l5Copy.pre x0 = true from hs) rfl)
   · rw [show GroupLeave x0 x1 = _ from if_pos ⟨h0, hin⟩]
     refine E_else (by decide) (E_if (show spec_l5Without.pre x0 _ = true by simp only [spec_l5Without.pre, Bool.and_eq_true, decide_eq_true_eq]; exact ⟨hs, h0, by unfold atG at *; omega⟩) (E_if (show spec_l5Up.pre _ = true from decide_eq_true (Int.le_refl _)) rfl))
 · rw [show GroupLeave x0 x1 = x0 from if_neg (fun h => h0 h.1)]
   exact E_if (by rw [decide_eq_true_eq]; omega) (E_if (show spec_l5Copy.pre x0 = true from hs) rfl)
end spec_GroupLeave
abbrev spec_GroupLeave := GroupLeave
def OwnerOf (g : Group) (row : Int) : Int := if (g.2.1.length : Int) = 0 ∨ row < 0 then -1 else g.2.1.getD (Int.tmod row (g.2.1.length : Int)).toNat 0
namespace spec_OwnerOf
def pre (g : Group) (_ : Int) : Bool := groupS g
abbrev wf (x0 : Group) (x1 : Int) : Prop := wfA [(.val zk14 .f), (.val (.int .i64) .f)] (x0, (x1, ()))
noncomputable def raw (x0 : Group) (x1 : Int) : Option (Unit × (Int × Unit)) :=
 if (decide (((List.length x0.2.1 : Nat) : Int) = (0 : Int))) = true then
 some ((), ((-1 : Int), ()))
 else
 if (decide (x1 < (0 : Int))) = true then
 some ((), ((-1 : Int), ()))
 else
 if (!(decide (((List.length x0.2.1 : Nat) : Int) = (0 : Int)))) = true then
 if (decide ((0 : Int) ≤ (Int.tmod x1 ((List.length x0.2.1 : Nat) : Int)))) = true then
 if (decide ((Int.tmod x1 ((List.length x0.2.1 : Nat) : Int)) < ((List.length x0.2.1 : Nat) : Int))) = true then
 some ((), ((List.getD x0.2.1 (Int.toNat (Int.tmod x1 ((List.length x0.2.1 : Nat) : Int))) (0 : Int)), ()))
 else
 none
 else
 none
 else
 none
theorem eq (x0 : Group) (x1 : Int) (_ : wf x0 x1) (_ : pre x0 x1 = true) : raw x0 x1 = some ((), (OwnerOf x0 x1, ())) := by
 unfold raw
 by_cases h1 : (x0.2.1.length : Int) = 0
 · rw [show OwnerOf x0 x1 = -1 from if_pos (Or.inl h1)]
   exact E_if (decide_eq_true h1) rfl
 by_cases h2 : x1 < 0
 · rw [show OwnerOf x0 x1 = -1 from if_pos (Or.inr h2)]
   exact E_else (by rw [decide_eq_true_eq]; exact h1) (E_if (decide_eq_true h2) rfl)
 rw [show OwnerOf x0 x1 = _ from if_neg (fun h => h.elim h1 h2)]
 have t1 := Int.tmod_nonneg (x0.2.1.length : Int) (show 0 ≤ x1 by omega)
 have t2 := Int.tmod_lt_of_pos x1 (show 0 < (x0.2.1.length : Int) by omega)
 exact E_else (by rw [decide_eq_true_eq]; exact h1) (E_else (by rw [decide_eq_true_eq]; exact h2) (E_if (by simp only [Bool.not_eq_true', decide_eq_false_iff_not]; exact h1) (E_if (decide_eq_true t1) (E_if (decide_eq_true t2) rfl))))
end spec_OwnerOf
abbrev spec_OwnerOf := OwnerOf
def markOk (g : Group) (who gen row off : Int) : Bool := decide (gen = g.1) && (impl_within row 0 ((g.2.2.2.1.length : Int) - 1) && (decide (OwnerOf g row = who) && decide (g.2.2.2.1.getD row.toNat 0 ≤ off)))
def GroupMark (g : Group) (who gen row off : Int) : Group × Bool := if markOk g who gen row off = true then ((g.1, (g.2.1, (g.2.2.1, (g.2.2.2.1.modify row.toNat (fun _ => off), ())))), true) else (g, false)
namespace spec_GroupMark
def pre (g : Group) (_ _ _ _ : Int) : Bool := groupS g
abbrev wf (x0 : Group) (x1 : Int) (x2 : Int) (x3 : Int) (x4 : Int) : Prop := wfA [(.val zk14 .f), (.val (.int .i64) .f), (.val (.int .i64) .f), (.val (.int .i64) .f), (.val (.int .i64) .f)] (x0, (x1, (x2, (x3, (x4, ())))))
noncomputable def raw (x0 : Group) (x1 : Int) (x2 : Int) (x3 : Int) (x4 : Int) : Option (Unit × (Group × (Bool × Unit))) :=
 if (spec_l5Copy.pre x0) = true then
 if (!(decide (x2 = x0.1))) = true then
 letB (spec_l5Copy x0) fun v1 =>
 some ((), (v1, (false, ())))
 else
 letB (impl_within x3 (0 : Int) (IntKind.wrap .i64 (((List.length x0.2.2.2.1 : Nat) : Int) - (1 : Int)))) fun v2 =>
 if (!v2) = true then
 letB (spec_l5Copy x0) fun v3 =>
 some ((), (v3, (false, ())))
 else
 if (spec_OwnerOf.pre x0 x3) = true then
 letB (OwnerOf x0 x3) fun v4 =>
 if (!(decide (v4 = x1))) = true then
 letB (spec_l5Copy x0) fun v5 =>
 some ((), (v5, (false, ())))
 else
 if (decide ((0 : Int) ≤ x3)) = true then
 if (decide (x3 < ((List.length x0.2.2.2.1 : Nat) : Int))) = true then
 if (decide (x4 < (List.getD x0.2.2.2.1 (Int.toNat x3) (0 : Int)))) = true then
 letB (spec_l5Copy x0) fun v6 =>
 some ((), (v6, (false, ())))
 else
 if (decide ((0 : Int) ≤ x3)) = true then
 letB (spec_l5Copy x0) fun v7 =>
 if (decide (x3 < ((List.length v7.2.2.2.1 : Nat) : Int))) = true then
 some ((), ((v7.1, (v7.2.1, (v7.2.2.1, ((List.modify v7.2.2.2.1 (Int.toNat x3) (fun z => x4)), v7.2.2.2.2)))), (true, ())))
 else
 none
 else
 none
 else
 none
 else
 none
 else
 none
 else
 none
theorem eq (x0 : Group) (x1 x2 x3 x4 : Int) (_ : wf x0 x1 x2 x3 x4) (hp : pre x0 x1 x2 x3 x4 = true) : raw x0 x1 x2 x3 x4 = some ((), ((GroupMark x0 x1 x2 x3 x4).1, ((GroupMark x0 x1 x2 x3 x4).2, ()))) := by
 have hs : groupS x0 = true := hp
 have hg := groupS_iff.1 hs
 unfold raw
 have no : markOk x0 x1 x2 x3 x4 = false → GroupMark x0 x1 x2 x3 x4 = (x0, false) := fun h => if_neg (by rw [h]; simp)
 rw [w64 (n := (x0.2.2.2.1.length : Int) - 1) (by omega) (by omega)]
 refine E_if (show spec_l5Copy.pre x0 = true from hs) ?_
 by_cases h1 : x2 = x0.1
 case neg =>
  rw [no (by simp [markOk, h1]), decide_eq_false h1]; rfl
 rw [decide_eq_true h1]
 refine E_else (by decide) (E_let ?_)
 cases hin : impl_within x3 0 ((x0.2.2.2.1.length : Int) - 1)
 · rw [no (by simp [markOk, hin])]; rfl
 have hw := within_hi hin
 refine E_else (by decide) (E_if (show spec_OwnerOf.pre x0 x3 = true from hs) (E_let ?_))
 by_cases h2 : OwnerOf x0 x3 = x1
 case neg => rw [no (by simp [markOk, h2]), decide_eq_false h2]; rfl
 rw [decide_eq_true h2]
 refine E_else (by decide) (E_if (decide_eq_true hw.1) (E_if (decide_eq_true (by omega)) ?_))
 by_cases h3 : x4 < x0.2.2.2.1.getD x3.toNat 0
 · rw [no (by simp only [markOk, decide_eq_false (p := x0.2.2.2.1.getD x3.toNat 0 ≤ x4) (by omega), Bool.and_false])]
   exact E_if (decide_eq_true h3) rfl
 · rw [show GroupMark x0 x1 x2 x3 x4 = _ from if_pos (by simp only [markOk, decide_eq_true (p := x0.2.2.2.1.getD x3.toNat 0 ≤ x4) (by omega), decide_eq_true h1, decide_eq_true h2, hin]; rfl)]
   exact E_else (by rw [decide_eq_true_eq]; exact h3) (E_if (decide_eq_true hw.1) (E_let (E_if (decide_eq_true (show x3 < (x0.2.2.2.1.length : Int) by omega)) rfl)))
end spec_GroupMark
abbrev spec_GroupMark := GroupMark
theorem W_eq2 {β γ : Type} {m : Option (Unit × (β × (γ × Unit)))} {v : β × γ} (h : Wp m fun r => (r.2.1, r.2.2.1) = v) : m = some ((), (v.1, (v.2, ()))) := by
 obtain ⟨a, rfl, rfl⟩ := h
 rfl
def isMk (row who : Int) (m : Maker) : Bool := decide (m.1 = row) && decide (m.2.1 = who)
def MakerOf (xs : List Maker) (row who : Int) : Maker := (xs.find? (isMk row who)).getD (row, (who, ((0 : Int), ((-1 : Int), (([] : List Mark), ())))))
def mksS (xs : List Maker) : Bool := small xs && xs.all fun m => small m.2.2.2.2.1
theorem mksS_iff {xs : List Maker} : mksS xs = true ↔ xs.length ≤ 16777216 ∧ ∀ m ∈ xs, m.2.2.2.2.1.length ≤ 16777216 := by
 simp only [mksS, Bool.and_eq_true, small_iff, List.all_eq_true]
namespace spec_MakerOf
abbrev S2 : Type := ((List Maker) × (Int × (Int × (Int × zt24))))
abbrev O2 : Type := (zt24 ⊕ (Int × (Int × zt24)))
def pre2 : S2 → Bool := fun (x1, _, _, x4, _) => mksS x1 && (decide (0 ≤ x4) && decide (x4 ≤ (x1.length : Int)))
def mu2 : S2 → Nat := fun (x1, _, _, x4, _) => x1.length - x4.toNat
def Q2 (s : S2) (o : O2) : Prop := match o with
 | .inl y => ((s.1.drop s.2.2.2.1.toNat).find? (isMk s.2.1 s.2.2.1)) = some (y.1, (y.2.1, (y.2.2.1, (y.2.2.2.1, (y.2.2.2.2.2.1, ())))))
 | .inr y => ((s.1.drop s.2.2.2.1.toNat).find? (isMk s.2.1 s.2.2.1)) = none ∧ y.1 = s.2.1 ∧ y.2.1 = s.2.2.1
noncomputable def raw2 (x1 : (List Maker)) (x2 : Int) (x3 : Int) (x4 : Int) (x5 : Int) (x6 : Int) (x7 : Int) (x8 : Int) (x9 : Unit) (x10 : (List Mark)) : Option (((List Maker) × (Int × (Int × (Int × zt24)))) ⊕ (zt24 ⊕ (Int × (Int × zt24)))) :=
 if (decide (x4 < ((List.length x1 : Nat) : Int))) = true then
 if (decide ((0 : Int) ≤ x4)) = true then
 if (decide (x4 < ((List.length x1 : Nat) : Int))) = true then
 if (decide ((List.getD x1 (Int.toNat x4) zd4).1 = x2)) = true then
 if (decide ((0 : Int) ≤ x4)) = true then
 if (decide (x4 < ((List.length x1 : Nat) : Int))) = true then
 if (decide ((List.getD x1 (Int.toNat x4) zd4).2.1 = x3)) = true then
 if (decide ((0 : Int) ≤ x4)) = true then
 if (decide (x4 < ((List.length x1 : Nat) : Int))) = true then
 if (spec_l4Copy.pre (List.getD x1 (Int.toNat x4) zd4)) = true then
 letB (spec_l4Copy (List.getD x1 (Int.toNat x4) zd4)) fun v1 =>
 some (.inr (.inl (v1.1, (v1.2.1, (v1.2.2.1, (v1.2.2.2.1, (v1.2.2.2.2.2, v1.2.2.2.2)))))))
 else
 none
 else
 none
 else
 none
 else
 some (.inl (x1, (x2, (x3, ((IntKind.wrap .i64 (x4 + (1 : Int))), (x5, (x6, (x7, (x8, (x9, (x10, ())))))))))))
 else
 none
 else
 none
 else
 some (.inl (x1, (x2, (x3, ((IntKind.wrap .i64 (x4 + (1 : Int))), (x5, (x6, (x7, (x8, (x9, (x10, ())))))))))))
 else
 none
 else
 none
 else
 some (.inr (.inr (x2, (x3, (x5, (x6, (x7, (x8, (x9, (x10, ()))))))))))
theorem wp2 : ∀ s, pre2 s = true → Wp ((fun (x : S2) => raw2 x.1 x.2.1 x.2.2.1 x.2.2.2.1 x.2.2.2.2.1 x.2.2.2.2.2.1 x.2.2.2.2.2.2.1 x.2.2.2.2.2.2.2.1 x.2.2.2.2.2.2.2.2.1 x.2.2.2.2.2.2.2.2.2.1) s) (Step pre2 mu2 Q2 s) := by
 rintro ⟨x1, x2, x3, x4, x5, x6, x7, x8, ⟨⟩, x10, ⟨⟩⟩ hp
 simp only [pre2, Bool.and_eq_true, decide_eq_true_eq] at hp
 obtain ⟨hs, h1, h2⟩ := hp
 have hm := mksS_iff.1 hs
 show Wp (raw2 x1 x2 x3 x4 x5 x6 x7 x8 () x10) _
 unfold raw2
 by_cases hlt : x4 < (x1.length : Int)
 · have hn : x4.toNat < x1.length := by omega
   have e1 := List.drop_eq_getElem_cons hn
   rw [getD_get hn, w64 (n := x4 + 1) (by omega) (by omega)]
   have nxt : isMk x2 x3 x1[x4.toNat] = false → Step pre2 mu2 Q2 (x1, x2, x3, x4, x5, x6, x7, x8, (), x10, ()) (.inl (x1, (x2, (x3, ((x4 + 1), (x5, (x6, (x7, (x8, ((), (x10, ()))))))))))) := by
    intro hk
    refine ⟨?_, by simp only [mu2]; omega, fun o ho => ?_⟩
    · simp only [pre2, Bool.and_eq_true, decide_eq_true_eq]; exact ⟨hs, by omega, by omega⟩
    · have e : (x1.drop x4.toNat).find? (isMk x2 x3) = (x1.drop (x4 + 1).toNat).find? (isMk x2 x3) := by
       rw [e1, show (x4 + 1).toNat = x4.toNat + 1 by omega, List.find?_cons, hk]
      cases o with
      | inl y => exact e.trans ho
      | inr y => exact ⟨e.trans ho.1, ho.2⟩
   refine W_if (decide_eq_true hlt) (W_if (decide_eq_true h1) (W_if (decide_eq_true hlt) (W_ite (fun a => W_if (decide_eq_true h1) (W_if (decide_eq_true hlt) (W_ite (fun b => ?_) fun b => ?_))) fun a => ?_)))
   · rw [decide_eq_true_eq] at a b
     refine W_if (decide_eq_true h1) (W_if (decide_eq_true hlt) (W_if (show spec_l4Copy.pre _ = true from small_iff.2 (hm.2 _ (List.getElem_mem hn))) (W_let (W_some ?_))))
     show (x1.drop x4.toNat).find? (isMk x2 x3) = some x1[x4.toNat]
     rw [e1, List.find?_cons, show isMk x2 x3 x1[x4.toNat] = true by simp [isMk, a, b]]
   · rw [decide_eq_true_eq] at b
     exact W_some (nxt (by simp [isMk, b]))
   · rw [decide_eq_true_eq] at a
     exact W_some (nxt (by simp [isMk, a]))
 · refine W_else (by rw [decide_eq_true_eq]; exact hlt) (W_some ?_)
   refine ⟨?_, rfl, rfl⟩
   show (x1.drop x4.toNat).find? _ = none
   rw [List.drop_eq_nil_of_le (by omega)]; rfl
noncomputable def fn2 : S2 → O2 := runS (fun (x : S2) => raw2 x.1 x.2.1 x.2.2.1 x.2.2.2.1 x.2.2.2.2.1 x.2.2.2.2.2.1 x.2.2.2.2.2.2.1 x.2.2.2.2.2.2.2.1 x.2.2.2.2.2.2.2.2.1 x.2.2.2.2.2.2.2.2.2.1) mu2
theorem ok2 (x1 : List Maker) (x2 x3 x4 x5 x6 x7 x8 : Int) (x9 : Unit) (x10 : List Mark) (hp : pre2 (x1, (x2, (x3, (x4, (x5, (x6, (x7, (x8, (x9, (x10, ())))))))))) = true) :
 Rounds pre2 mu2 fn2 (x1, (x2, (x3, (x4, (x5, (x6, (x7, (x8, (x9, (x10, ())))))))))) (raw2 x1 x2 x3 x4 x5 x6 x7 x8 x9 x10) := runS_ok wp2 hp
def pre (xs : List Maker) (_ _ : Int) : Bool := mksS xs
abbrev wf (x0 : (List Maker)) (x1 : Int) (x2 : Int) : Prop := wfA [(.val (.sl 0 zk21) .f), (.val (.int .i64) .f), (.val (.int .i64) .f)] (x0, (x1, (x2, ())))
noncomputable def raw (x0 : (List Maker)) (x1 : Int) (x2 : Int) : Option (Unit × (Maker × Unit)) :=
 if (spec_MakerOf.pre2 (x0, (x1, (x2, zd32)))) = true then
  letB (spec_MakerOf.fn2 (x0, (x1, (x2, zd32)))) fun v1 =>
  match v1 with
  | .inl y =>
   some ((), ((y.1, (y.2.1, (y.2.2.1, (y.2.2.2.1, (y.2.2.2.2.2.1, y.2.2.2.2.1))))), ()))
  | .inr y =>
   some ((), ((y.1, (y.2.1, ((0 : Int), ((-1 : Int), (([] : List Mark), ()))))), ()))
 else
  none
theorem eq (x0 : List Maker) (x1 x2 : Int) (_ : wf x0 x1 x2) (hp : pre x0 x1 x2 = true) : raw x0 x1 x2 = some ((), (MakerOf x0 x1 x2, ())) := by
 have hs : mksS x0 = true := hp
 refine W_eq ?_
 unfold raw MakerOf
 have hq : pre2 (x0, (x1, (x2, zd32))) = true := by
  simp only [pre2, Bool.and_eq_true, decide_eq_true_eq]; exact ⟨hs, by omega, by omega⟩
 refine W_if hq (W_fact (runS_q wp2 hq : Q2 _ (fn2 _)) fun o ho => ?_)
 cases o with
 | inl y =>
  have : x0.find? (isMk x1 x2) = some (y.1, (y.2.1, (y.2.2.1, (y.2.2.2.1, (y.2.2.2.2.2.1, ()))))) := ho
  rw [this]
  exact W_some rfl
 | inr y =>
  obtain ⟨h1, h2, h3⟩ := ho
  have : x0.find? (isMk x1 x2) = none := h1
  rw [this]
  simp only [] at h2 h3
  refine W_some ?_
  show (y.1, (y.2.1, _)) = _
  rw [h2, h3]; rfl
end spec_MakerOf
abbrev spec_MakerOf := MakerOf
def MakerAsk (m : Maker) (epoch seq : Int) : Int × Int :=
 if epoch < m.2.2.1 then (4, 0)
 else if m.2.2.1 < epoch then (if seq = 0 then (0, 0) else (3, 0))
 else if m.2.2.2.1 < seq then (if IntKind.wrap .i64 (seq - 1) = m.2.2.2.1 then (0, 0) else (3, 0))
 else match m.2.2.2.2.1.find? (fun x => decide (x.1 = seq)) with
  | some x => (1, x.2.1)
  | none => (2, 0)
namespace spec_MakerAsk
abbrev S12 : Type := (Int × (Int × (Maker × Unit)))
abbrev O12 : Type := (Mark ⊕ Unit)
def pre12 : S12 → Bool := fun (_, x2, x3, _) => small x3.2.2.2.2.1 && (decide (0 ≤ x2) && decide (x2 ≤ (x3.2.2.2.2.1.length : Int)))
def mu12 : S12 → Nat := fun (_, x2, x3, _) => x3.2.2.2.2.1.length - x2.toNat
def fn12 : S12 → O12 := fun (x1, x2, x3, _) => match (x3.2.2.2.2.1.drop x2.toNat).find? (fun x => decide (x.1 = x1)) with
 | some x => .inl (1, x.2)
 | none => .inr ()
noncomputable def raw12 (x1 : Int) (x2 : Int) (x3 : Maker) : Option ((Int × (Int × (Maker × Unit))) ⊕ (Mark ⊕ Unit)) :=
 if (decide (x2 < ((List.length x3.2.2.2.2.1 : Nat) : Int))) = true then
 if (decide ((0 : Int) ≤ x2)) = true then
 if (decide (x2 < ((List.length x3.2.2.2.2.1 : Nat) : Int))) = true then
 if (decide ((List.getD x3.2.2.2.2.1 (Int.toNat x2) zd23).1 = x1)) = true then
 if (decide ((0 : Int) ≤ x2)) = true then
 if (decide (x2 < ((List.length x3.2.2.2.2.1 : Nat) : Int))) = true then
 some (.inr (.inl ((1 : Int), (List.getD x3.2.2.2.2.1 (Int.toNat x2) zd23).2)))
 else
 none
 else
 none
 else
 some (.inl (x1, ((IntKind.wrap .i64 (x2 + (1 : Int))), (x3, ()))))
 else
 none
 else
 none
 else
 some (.inr (.inr ()))
abbrev wf (x0 : Maker) (x1 : Int) (x2 : Int) : Prop := wfA [(.val zk21 .f), (.val (.int .i64) .f), (.val (.int .i64) .f)] (x0, (x1, (x2, ())))
noncomputable def raw (x0 : Maker) (x1 : Int) (x2 : Int) : Option (Unit × Mark) :=
 if (decide (x1 < x0.2.2.1)) = true then
  some ((), ((4 : Int), ((0 : Int), ())))
 else
  if (decide (x0.2.2.1 < x1)) = true then
   if (decide (x2 = (0 : Int))) = true then
    some ((), zd23)
   else
    some ((), ((3 : Int), ((0 : Int), ())))
  else
   if (decide (x0.2.2.2.1 < x2)) = true then
    if (decide ((IntKind.wrap .i64 (x2 - (1 : Int))) = x0.2.2.2.1)) = true then
     some ((), zd23)
    else
     some ((), ((3 : Int), ((0 : Int), ())))
   else
    if (spec_MakerAsk.pre12 (x2, ((0 : Int), (x0, ())))) = true then
     letB (spec_MakerAsk.fn12 (x2, ((0 : Int), (x0, ())))) fun v1 =>
     match v1 with
     | .inl y =>
      some ((), y)
     | .inr y =>
      some ((), ((2 : Int), ((0 : Int), ())))
    else
     none
theorem ok12 (x1 x2 : Int) (x3 : Maker) (hp : pre12 (x1, (x2, (x3, ()))) = true) : Rounds pre12 mu12 fn12 (x1, (x2, (x3, ()))) (raw12 x1 x2 x3) := by
 simp only [pre12, Bool.and_eq_true, decide_eq_true_eq] at hp
 obtain ⟨hs, h1, h2⟩ := hp
 have hs' := small_iff.1 hs
 unfold raw12
 by_cases hlt : x2 < (x3.2.2.2.2.1.length : Int)
 · have hn : x2.toNat < x3.2.2.2.2.1.length := by omega
   have e1 := List.drop_eq_getElem_cons hn
   refine R_if (decide_eq_true hlt) (R_if (decide_eq_true h1) (R_if (decide_eq_true hlt) ?_))
   rw [getD_get hn, w64 (n := x2 + 1) (by omega) (by omega)]
   by_cases c : x3.2.2.2.2.1[x2.toNat].1 = x1
   · refine R_if (decide_eq_true c) (R_if (decide_eq_true h1) (R_if (decide_eq_true hlt) ?_))
     simp only [Rounds, fn12]
     rw [e1, List.find?_cons, decide_eq_true c]
   · refine R_else (by rw [decide_eq_true_eq]; exact c) ⟨?_, by simp only [mu12]; omega, ?_⟩
     · simp only [pre12, Bool.and_eq_true, decide_eq_true_eq]; exact ⟨hs, by omega, by omega⟩
     · simp only [fn12]
       rw [e1, List.find?_cons, decide_eq_false c, show (x2 + 1).toNat = x2.toNat + 1 by omega]
 · refine R_else (by rw [decide_eq_true_eq]; exact hlt) ?_
   simp only [Rounds, fn12]
   rw [List.drop_eq_nil_of_le (by omega)]; rfl
def pre (m : Maker) (_ _ : Int) : Bool := small m.2.2.2.2.1
theorem eq (x0 : Maker) (x1 x2 : Int) (_ : wf x0 x1 x2) (hp : pre x0 x1 x2 = true) : raw x0 x1 x2 = some ((), ((MakerAsk x0 x1 x2).1, ((MakerAsk x0 x1 x2).2, ()))) := by
 have hs : small x0.2.2.2.2.1 = true := hp
 have q : pre12 (x2, ((0 : Int), (x0, ()))) = true := by
  simp only [pre12, Bool.and_eq_true, decide_eq_true_eq]; exact ⟨hs, by omega, by omega⟩
 refine W_eq2 ?_
 unfold raw MakerAsk
 by_cases c1 : x1 < x0.2.2.1
 · rw [if_pos (decide_eq_true c1), if_pos c1]; exact W_some rfl
 rw [if_neg (by rw [decide_eq_true_eq]; exact c1), if_neg c1]
 by_cases c2 : x0.2.2.1 < x1
 · rw [if_pos (decide_eq_true c2), if_pos c2]
   by_cases c3 : x2 = 0
   · rw [if_pos (decide_eq_true c3), if_pos c3]; exact W_some rfl
   · rw [if_neg (by rw [decide_eq_true_eq]; exact c3), if_neg c3]; exact W_some rfl
 rw [if_neg (by rw [decide_eq_true_eq]; exact c2), if_neg c2]
 by_cases c4 : x0.2.2.2.1 < x2
 · rw [if_pos (decide_eq_true c4), if_pos c4]
   by_cases c5 : IntKind.wrap .i64 (x2 - 1) = x0.2.2.2.1
   · rw [if_pos (decide_eq_true c5), if_pos c5]; exact W_some rfl
   · rw [if_neg (by rw [decide_eq_true_eq]; exact c5), if_neg c5]; exact W_some rfl
 rw [if_neg (by rw [decide_eq_true_eq]; exact c4), if_neg c4]
 refine W_if q (W_let ?_)
 simp only [fn12, Int.toNat_zero, List.drop_zero]
 cases x0.2.2.2.2.1.find? (fun x => decide (x.1 = x2)) <;> exact W_some rfl
end spec_MakerAsk
abbrev spec_MakerAsk := MakerAsk
def maxI (a b : Int) : Int := if b < a then a else b
namespace spec_l1Max
abbrev wf (x0 : Int) (x1 : Int) : Prop := wfA [(.val (.int .i64) .f), (.val (.int .i64) .f)] (x0, (x1, ()))
noncomputable def raw (x0 : Int) (x1 : Int) : Option (Unit × (Int × Unit)) :=
 if (decide (x1 < x0)) = true then
 some ((), (x0, ()))
 else
 some ((), (x1, ()))
theorem eq (x0 x1 : Int) (_ : wf x0 x1) : raw x0 x1 = some ((), (maxI x0 x1, ())) := by
 unfold raw maxI
 by_cases h : x1 < x0
 · rw [if_pos (decide_eq_true h), if_pos h]
 · rw [if_neg (by rw [decide_eq_true_eq]; exact h), if_neg h]
end spec_l1Max
abbrev spec_l1Max := maxI
def lastN (w : Int) (l : List Mark) : List Mark := l.drop (l.length - (maxI w 0).toNat)
def MakerPut (m : Maker) (w epoch seq off : Int) : Maker :=
 if (MakerAsk m epoch seq).1 = 0 then (m.1, (m.2.1, (epoch, (seq, (lastN w ((if m.2.2.1 < epoch then [] else m.2.2.2.2.1) ++ [(seq, (off, ()))]), ()))))) else m
theorem drop_parts {α : Type} {l : List α} {k : Int} (h0 : 0 ≤ k) : List.append ([] : List α) (dropTake k.toNat ((l.length : Int)).toNat l) = l.drop k.toNat := by
 show List.take (((l.length : Int)).toNat - k.toNat) (List.drop k.toNat l) = _
 exact List.take_of_length_le (by rw [List.length_drop]; omega)
namespace spec_MakerPut
def pre (m : Maker) (_ _ _ _ : Int) : Bool := small m.2.2.2.2.1
abbrev wf (x0 : Maker) (x1 : Int) (x2 : Int) (x3 : Int) (x4 : Int) : Prop := wfA [(.val zk21 .f), (.val (.int .i64) .f), (.val (.int .i64) .f), (.val (.int .i64) .f), (.val (.int .i64) .f)] (x0, (x1, (x2, (x3, (x4, ())))))
noncomputable def raw (x0 : Maker) (x1 : Int) (x2 : Int) (x3 : Int) (x4 : Int) : Option (Unit × (Maker × Unit)) :=
 if (spec_l4Copy.pre x0) = true then
 if (spec_MakerAsk.pre x0 x2 x3) = true then
 letB (MakerAsk x0 x2 x3) fun v1 =>
 if (!(decide (v1.1 = (0 : Int)))) = true then
 letB (spec_l4Copy x0) fun v2 =>
 some ((), (v2, ()))
 else
 if (decide (x0.2.2.1 < x2)) = true then
 if (decide (List.length ([] : List Mark) + List.length ((x3, (x4, ())) :: ([] : List Mark)) ≤ lim)) = true then
 letB (maxI x1 (0 : Int)) fun v3 =>
 if (decide (v3 < ((List.length (List.append ([] : List Mark) ((x3, (x4, ())) :: ([] : List Mark))) : Nat) : Int))) = true then
 if (decide ((0 : Int) ≤ (IntKind.wrap .i64 (((List.length (List.append ([] : List Mark) ((x3, (x4, ())) :: ([] : List Mark))) : Nat) : Int) - v3)))) = true then
 if (decide ((IntKind.wrap .i64 (((List.length (List.append ([] : List Mark) ((x3, (x4, ())) :: ([] : List Mark))) : Nat) : Int) - v3)) ≤ ((List.length (List.append ([] : List Mark) ((x3, (x4, ())) :: ([] : List Mark))) : Nat) : Int))) = true then
 if (decide (((List.length (List.append ([] : List Mark) ((x3, (x4, ())) :: ([] : List Mark))) : Nat) : Int) ≤ ((List.length (List.append ([] : List Mark) ((x3, (x4, ())) :: ([] : List Mark))) : Nat) : Int))) = true then
 if (decide (List.length ([] : List Mark) + List.length (dropTake (Int.toNat (IntKind.wrap .i64 (((List.length (List.append ([] : List Mark) ((x3, (x4, ())) :: ([] : List Mark))) : Nat) : Int) - v3))) (Int.toNat ((List.length (List.append ([] : List Mark) ((x3, (x4, ())) :: ([] : List Mark))) : Nat) : Int)) (List.append ([] : List Mark) ((x3, (x4, ())) :: ([] : List Mark)))) ≤ lim)) = true then
 letB (spec_l4Copy x0) fun v4 =>
 some ((), ((v4.1, (v4.2.1, (x2, (x3, ((List.append ([] : List Mark) (dropTake (Int.toNat (IntKind.wrap .i64 (((List.length (List.append ([] : List Mark) ((x3, (x4, ())) :: ([] : List Mark))) : Nat) : Int) - v3))) (Int.toNat ((List.length (List.append ([] : List Mark) ((x3, (x4, ())) :: ([] : List Mark))) : Nat) : Int)) (List.append ([] : List Mark) ((x3, (x4, ())) :: ([] : List Mark))))), v4.2.2.2.2.2))))), ()))
 else
 none
 else
 none
 else
 none
 else
 none
 else
 letB (spec_l4Copy x0) fun v5 =>
 some ((), ((v5.1, (v5.2.1, (x2, (x3, ((List.append ([] : List Mark) ((x3, (x4, ())) :: ([] : List Mark))), v5.2.2.2.2.2))))), ()))
 else
 none
 else
 letB (spec_l4Copy x0) fun v6 =>
 if (decide (List.length v6.2.2.2.2.1 + List.length ((x3, (x4, ())) :: ([] : List Mark)) ≤ lim)) = true then
 letB (maxI x1 (0 : Int)) fun v7 =>
 if (decide (v7 < ((List.length (List.append v6.2.2.2.2.1 ((x3, (x4, ())) :: ([] : List Mark))) : Nat) : Int))) = true then
 if (decide ((0 : Int) ≤ (IntKind.wrap .i64 (((List.length (List.append v6.2.2.2.2.1 ((x3, (x4, ())) :: ([] : List Mark))) : Nat) : Int) - v7)))) = true then
 if (decide ((IntKind.wrap .i64 (((List.length (List.append v6.2.2.2.2.1 ((x3, (x4, ())) :: ([] : List Mark))) : Nat) : Int) - v7)) ≤ ((List.length (List.append v6.2.2.2.2.1 ((x3, (x4, ())) :: ([] : List Mark))) : Nat) : Int))) = true then
 if (decide (((List.length (List.append v6.2.2.2.2.1 ((x3, (x4, ())) :: ([] : List Mark))) : Nat) : Int) ≤ ((List.length (List.append v6.2.2.2.2.1 ((x3, (x4, ())) :: ([] : List Mark))) : Nat) : Int))) = true then
 if (decide (List.length ([] : List Mark) + List.length (dropTake (Int.toNat (IntKind.wrap .i64 (((List.length (List.append v6.2.2.2.2.1 ((x3, (x4, ())) :: ([] : List Mark))) : Nat) : Int) - v7))) (Int.toNat ((List.length (List.append v6.2.2.2.2.1 ((x3, (x4, ())) :: ([] : List Mark))) : Nat) : Int)) (List.append v6.2.2.2.2.1 ((x3, (x4, ())) :: ([] : List Mark)))) ≤ lim)) = true then
 some ((), ((v6.1, (v6.2.1, (x2, (x3, ((List.append ([] : List Mark) (dropTake (Int.toNat (IntKind.wrap .i64 (((List.length (List.append v6.2.2.2.2.1 ((x3, (x4, ())) :: ([] : List Mark))) : Nat) : Int) - v7))) (Int.toNat ((List.length (List.append v6.2.2.2.2.1 ((x3, (x4, ())) :: ([] : List Mark))) : Nat) : Int)) (List.append v6.2.2.2.2.1 ((x3, (x4, ())) :: ([] : List Mark))))), v6.2.2.2.2.2))))), ()))
 else
 none
 else
 none
 else
 none
 else
 none
 else
 some ((), ((v6.1, (v6.2.1, (x2, (x3, ((List.append v6.2.2.2.2.1 ((x3, (x4, ())) :: ([] : List Mark))), v6.2.2.2.2.2))))), ()))
 else
 none
 else
 none
 else
 none
theorem eq (x0 : Maker) (x1 x2 x3 x4 : Int) (_ : wf x0 x1 x2 x3 x4) (hp : pre x0 x1 x2 x3 x4 = true) : raw x0 x1 x2 x3 x4 = some ((), (MakerPut x0 x1 x2 x3 x4, ())) := by
 have hs : small x0.2.2.2.2.1 = true := hp
 have hs' := small_iff.1 hs
 have fin : ∀ l : List Mark, l.length ≤ 16777217 →
  (¬ maxI x1 0 < (l.length : Int) → lastN x1 l = l) ∧ (maxI x1 0 < (l.length : Int) → IntKind.wrap .i64 ((l.length : Int) - maxI x1 0) = (l.length : Int) - maxI x1 0 ∧ 0 ≤ (l.length : Int) - maxI x1 0 ∧ (l.length : Int) - maxI x1 0 ≤ (l.length : Int) ∧ List.append ([] : List Mark) (dropTake ((l.length : Int) - maxI x1 0).toNat ((l.length : Int)).toNat l) = lastN x1 l) := by
  intro l hl
  have hm : 0 ≤ maxI x1 0 := by unfold maxI; split <;> omega
  refine ⟨fun h => ?_, fun h => ⟨w64 (by omega) (by omega), by omega, by omega, ?_⟩⟩
  · unfold lastN
    rw [show l.length - (maxI x1 0).toNat = 0 by omega, List.drop_zero]
  · rw [drop_parts (by omega)]
    unfold lastN
    rw [show ((l.length : Int) - maxI x1 0).toNat = l.length - (maxI x1 0).toNat by omega]
 unfold raw
 rw [show spec_l4Copy x0 = x0 from rfl]
 refine E_if (show spec_l4Copy.pre x0 = true from hs) (E_if (show spec_MakerAsk.pre x0 x2 x3 = true from hs) (E_let ?_))
 by_cases c1 : (MakerAsk x0 x2 x3).1 = 0
 case neg =>
  rw [show MakerPut x0 x1 x2 x3 x4 = x0 from if_neg c1]
  exact E_if (by simp only [Bool.not_eq_true', decide_eq_false_iff_not]; exact c1) rfl
 refine E_else (by simp only [Bool.not_eq_true', decide_eq_false_iff_not, Decidable.not_not]; exact c1) ?_
 rw [show MakerPut x0 x1 x2 x3 x4 = _ from if_pos c1]
 by_cases c2 : x0.2.2.1 < x2
 · rw [if_pos c2]
   refine E_if (decide_eq_true c2) (E_if (by simp only [decide_eq_true_eq, List.length_cons, List.length_nil, lim]; omega) (E_let ?_))
   have hf := fin (List.append ([] : List Mark) [(x3, (x4, ()))]) (by simp)
   have hll : (List.append ([] : List Mark) [(x3, (x4, ()))]).length ≤ 16777217 := by simp
   show _ = some ((), ((x0.1, (x0.2.1, (x2, (x3, (lastN x1 (List.append ([] : List Mark) [(x3, (x4, ()))]), ()))))), ()))
   generalize List.append ([] : List Mark) [(x3, (x4, ()))] = l at *
   by_cases c3 : maxI x1 0 < (l.length : Int)
   · obtain ⟨f1, f2, f3, f4⟩ := hf.2 c3
     rw [f1, ← f4]
     exact E_if (decide_eq_true c3) (E_if (decide_eq_true f2) (E_if (decide_eq_true f3) (E_if (decide_eq_true (Int.le_refl _)) (E_if (by simp only [decide_eq_true_eq, List.length_nil, dropTake, List.length_take, List.length_drop, lim]; omega) rfl))))
   · rw [hf.1 c3]
     exact E_else (by rw [decide_eq_true_eq]; exact c3) rfl
 · rw [if_neg c2]
   refine E_else (by rw [decide_eq_true_eq]; exact c2) (E_let (E_if (by simp only [decide_eq_true_eq, List.length_cons, List.length_nil, lim]; exact Nat.le_trans (Nat.add_le_add_right hs' 1) (by decide)) (E_let ?_)))
   have hll : (List.append x0.2.2.2.2.1 [(x3, (x4, ()))]).length ≤ 16777217 := by rw [List.append_eq, List.length_append, List.length_cons, List.length_nil]; omega
   have hf := fin (List.append x0.2.2.2.2.1 [(x3, (x4, ()))]) hll
   show _ = some ((), ((x0.1, (x0.2.1, (x2, (x3, (lastN x1 (List.append x0.2.2.2.2.1 [(x3, (x4, ()))]), ()))))), ()))
   generalize List.append x0.2.2.2.2.1 [(x3, (x4, ()))] = l at *
   by_cases c3 : maxI x1 0 < (l.length : Int)
   · obtain ⟨f1, f2, f3, f4⟩ := hf.2 c3
     rw [f1, ← f4]
     exact E_if (decide_eq_true c3) (E_if (decide_eq_true f2) (E_if (decide_eq_true f3) (E_if (decide_eq_true (Int.le_refl _)) (E_if (by simp only [decide_eq_true_eq, List.length_nil, dropTake, List.length_take, List.length_drop, lim]; omega) rfl))))
   · rw [hf.1 c3]
     exact E_else (by rw [decide_eq_true_eq]; exact c3) rfl
end spec_MakerPut
abbrev spec_MakerPut := MakerPut
def laterM (x m : Maker) : Bool := decide (m.1 < x.1) || (decide (x.1 = m.1) && decide (m.2.1 < x.2.1))
def setMk (m : Maker) : Bool → List Maker → List Maker
 | p, [] => cond p [] [m]
 | p, x :: r => cond (isMk m.1 m.2.1 x) (cond p (setMk m p r) (m :: setMk m true r)) (cond (!p && laterM x m) (m :: x :: setMk m true r) (x :: setMk m p r))
def MakerSet (xs : List Maker) (m : Maker) : List Maker := setMk m false xs
namespace spec_MakerSet
abbrev S4 : Type := ((List Maker) × (Bool × (Int × (Maker × ((List Maker) × Unit)))))
abbrev O4 : Type := (Bool × (Maker × ((List Maker) × Unit)))
def pre4 : S4 → Bool := fun (x1, _, x3, x4, x5, _) => mksS x1 && (small x4.2.2.2.2.1 && (decide (0 ≤ x3) && (decide (x3 ≤ (x1.length : Int)) && decide (x5.length ≤ 2 * x3.toNat))))
def mu4 : S4 → Nat := fun (x1, _, x3, _) => x1.length - x3.toNat
def Q4 (s : S4) (o : O4) : Prop := o.2.1 = s.2.2.2.1 ∧ o.2.2.1 ++ cond o.1 [] [s.2.2.2.1] = s.2.2.2.2.1 ++ setMk s.2.2.2.1 s.2.1 (s.1.drop s.2.2.1.toNat) ∧ o.2.2.1.length ≤ 2 * s.1.length
noncomputable def raw4 (x1 : (List Maker)) (x2 : Bool) (x3 : Int) (x4 : Maker) (x5 : (List Maker)) : Option (((List Maker) × (Bool × (Int × (Maker × ((List Maker) × Unit))))) ⊕ (Bool × (Maker × ((List Maker) × Unit)))) :=
 if (decide (x3 < ((List.length x1 : Nat) : Int))) = true then
 if (decide ((0 : Int) ≤ x3)) = true then
 if (decide (x3 < ((List.length x1 : Nat) : Int))) = true then
 if (decide ((List.getD x1 (Int.toNat x3) zd4).1 = x4.1)) = true then
 if (decide ((List.getD x1 (Int.toNat x3) zd4).2.1 = x4.2.1)) = true then
 if (!x2) = true then
 if (spec_l4Copy.pre x4) = true then
 letB (spec_l4Copy x4) fun v1 =>
 if (decide (List.length x5 + List.length (v1 :: ([] : List Maker)) ≤ lim)) = true then
 some (.inl (x1, (true, ((IntKind.wrap .i64 (x3 + (1 : Int))), (x4, ((List.append x5 (v1 :: ([] : List Maker))), ()))))))
 else
 none
 else
 none
 else
 some (.inl (x1, (x2, ((IntKind.wrap .i64 (x3 + (1 : Int))), (x4, (x5, ()))))))
 else
 if (!x2) = true then
 if (decide (x4.1 < (List.getD x1 (Int.toNat x3) zd4).1)) = true then
 if (spec_l4Copy.pre x4) = true then
 letB (spec_l4Copy x4) fun v2 =>
 if (decide (List.length x5 + List.length (v2 :: ([] : List Maker)) ≤ lim)) = true then
 if (spec_l4Copy.pre (List.getD x1 (Int.toNat x3) zd4)) = true then
 letB (spec_l4Copy (List.getD x1 (Int.toNat x3) zd4)) fun v3 =>
 if (decide (List.length (List.append x5 (v2 :: ([] : List Maker))) + List.length (v3 :: ([] : List Maker)) ≤ lim)) = true then
 some (.inl (x1, (true, ((IntKind.wrap .i64 (x3 + (1 : Int))), (x4, ((List.append (List.append x5 (v2 :: ([] : List Maker))) (v3 :: ([] : List Maker))), ()))))))
 else
 none
 else
 none
 else
 none
 else
 none
 else
 if (decide ((List.getD x1 (Int.toNat x3) zd4).1 = x4.1)) = true then
 if (decide (x4.2.1 < (List.getD x1 (Int.toNat x3) zd4).2.1)) = true then
 if (spec_l4Copy.pre x4) = true then
 letB (spec_l4Copy x4) fun v4 =>
 if (decide (List.length x5 + List.length (v4 :: ([] : List Maker)) ≤ lim)) = true then
 if (spec_l4Copy.pre (List.getD x1 (Int.toNat x3) zd4)) = true then
 letB (spec_l4Copy (List.getD x1 (Int.toNat x3) zd4)) fun v5 =>
 if (decide (List.length (List.append x5 (v4 :: ([] : List Maker))) + List.length (v5 :: ([] : List Maker)) ≤ lim)) = true then
 some (.inl (x1, (true, ((IntKind.wrap .i64 (x3 + (1 : Int))), (x4, ((List.append (List.append x5 (v4 :: ([] : List Maker))) (v5 :: ([] : List Maker))), ()))))))
 else
 none
 else
 none
 else
 none
 else
 none
 else
 if (spec_l4Copy.pre (List.getD x1 (Int.toNat x3) zd4)) = true then
 letB (spec_l4Copy (List.getD x1 (Int.toNat x3) zd4)) fun v6 =>
 if (decide (List.length x5 + List.length (v6 :: ([] : List Maker)) ≤ lim)) = true then
 some (.inl (x1, (x2, ((IntKind.wrap .i64 (x3 + (1 : Int))), (x4, ((List.append x5 (v6 :: ([] : List Maker))), ()))))))
 else
 none
 else
 none
 else
 if (spec_l4Copy.pre (List.getD x1 (Int.toNat x3) zd4)) = true then
 letB (spec_l4Copy (List.getD x1 (Int.toNat x3) zd4)) fun v7 =>
 if (decide (List.length x5 + List.length (v7 :: ([] : List Maker)) ≤ lim)) = true then
 some (.inl (x1, (x2, ((IntKind.wrap .i64 (x3 + (1 : Int))), (x4, ((List.append x5 (v7 :: ([] : List Maker))), ()))))))
 else
 none
 else
 none
 else
 if (spec_l4Copy.pre (List.getD x1 (Int.toNat x3) zd4)) = true then
 letB (spec_l4Copy (List.getD x1 (Int.toNat x3) zd4)) fun v8 =>
 if (decide (List.length x5 + List.length (v8 :: ([] : List Maker)) ≤ lim)) = true then
 some (.inl (x1, (x2, ((IntKind.wrap .i64 (x3 + (1 : Int))), (x4, ((List.append x5 (v8 :: ([] : List Maker))), ()))))))
 else
 none
 else
 none
 else
 if (!x2) = true then
 if (decide (x4.1 < (List.getD x1 (Int.toNat x3) zd4).1)) = true then
 if (spec_l4Copy.pre x4) = true then
 letB (spec_l4Copy x4) fun v9 =>
 if (decide (List.length x5 + List.length (v9 :: ([] : List Maker)) ≤ lim)) = true then
 if (spec_l4Copy.pre (List.getD x1 (Int.toNat x3) zd4)) = true then
 letB (spec_l4Copy (List.getD x1 (Int.toNat x3) zd4)) fun v10 =>
 if (decide (List.length (List.append x5 (v9 :: ([] : List Maker))) + List.length (v10 :: ([] : List Maker)) ≤ lim)) = true then
 some (.inl (x1, (true, ((IntKind.wrap .i64 (x3 + (1 : Int))), (x4, ((List.append (List.append x5 (v9 :: ([] : List Maker))) (v10 :: ([] : List Maker))), ()))))))
 else
 none
 else
 none
 else
 none
 else
 none
 else
 if (decide ((List.getD x1 (Int.toNat x3) zd4).1 = x4.1)) = true then
 if (decide (x4.2.1 < (List.getD x1 (Int.toNat x3) zd4).2.1)) = true then
 if (spec_l4Copy.pre x4) = true then
 letB (spec_l4Copy x4) fun v11 =>
 if (decide (List.length x5 + List.length (v11 :: ([] : List Maker)) ≤ lim)) = true then
 if (spec_l4Copy.pre (List.getD x1 (Int.toNat x3) zd4)) = true then
 letB (spec_l4Copy (List.getD x1 (Int.toNat x3) zd4)) fun v12 =>
 if (decide (List.length (List.append x5 (v11 :: ([] : List Maker))) + List.length (v12 :: ([] : List Maker)) ≤ lim)) = true then
 some (.inl (x1, (true, ((IntKind.wrap .i64 (x3 + (1 : Int))), (x4, ((List.append (List.append x5 (v11 :: ([] : List Maker))) (v12 :: ([] : List Maker))), ()))))))
 else
 none
 else
 none
 else
 none
 else
 none
 else
 if (spec_l4Copy.pre (List.getD x1 (Int.toNat x3) zd4)) = true then
 letB (spec_l4Copy (List.getD x1 (Int.toNat x3) zd4)) fun v13 =>
 if (decide (List.length x5 + List.length (v13 :: ([] : List Maker)) ≤ lim)) = true then
 some (.inl (x1, (x2, ((IntKind.wrap .i64 (x3 + (1 : Int))), (x4, ((List.append x5 (v13 :: ([] : List Maker))), ()))))))
 else
 none
 else
 none
 else
 if (spec_l4Copy.pre (List.getD x1 (Int.toNat x3) zd4)) = true then
 letB (spec_l4Copy (List.getD x1 (Int.toNat x3) zd4)) fun v14 =>
 if (decide (List.length x5 + List.length (v14 :: ([] : List Maker)) ≤ lim)) = true then
 some (.inl (x1, (x2, ((IntKind.wrap .i64 (x3 + (1 : Int))), (x4, ((List.append x5 (v14 :: ([] : List Maker))), ()))))))
 else
 none
 else
 none
 else
 if (spec_l4Copy.pre (List.getD x1 (Int.toNat x3) zd4)) = true then
 letB (spec_l4Copy (List.getD x1 (Int.toNat x3) zd4)) fun v15 =>
 if (decide (List.length x5 + List.length (v15 :: ([] : List Maker)) ≤ lim)) = true then
 some (.inl (x1, (x2, ((IntKind.wrap .i64 (x3 + (1 : Int))), (x4, ((List.append x5 (v15 :: ([] : List Maker))), ()))))))
 else
 none
 else
 none
 else
 none
 else
 none
 else
 some (.inr (x2, (x4, (x5, ()))))
theorem wp4 : ∀ s, pre4 s = true → Wp ((fun (x : S4) => raw4 x.1 x.2.1 x.2.2.1 x.2.2.2.1 x.2.2.2.2.1) s) (Step pre4 mu4 Q4 s) := by
 rintro ⟨x1, x2, x3, x4, x5, ⟨⟩⟩ hp
 simp only [pre4, Bool.and_eq_true, decide_eq_true_eq] at hp
 obtain ⟨hs, hx, h1, h2, h3⟩ := hp
 have hm := mksS_iff.1 hs
 have hx' := small_iff.1 hx
 show Wp (raw4 x1 x2 x3 x4 x5) _
 unfold raw4
 by_cases hlt : x3 < (x1.length : Int)
 · have hn : x3.toNat < x1.length := by omega
   have e1 := List.drop_eq_getElem_cons hn
   rw [getD_get hn, w64 (n := x3 + 1) (by omega) (by omega)]
   have hxe := hm.2 _ (List.getElem_mem hn)
   generalize hge : x1[x3.toNat] = e at *
   have cp1 : spec_l4Copy.pre x4 = true := hx
   have cp2 : spec_l4Copy.pre e = true := small_iff.2 hxe
   have nx : ∀ (p : Bool) (y : List Maker), y.length ≤ 2 → setMk x4 x2 (x1.drop x3.toNat) = y ++ setMk x4 p (x1.drop (x3.toNat + 1)) →
    Step pre4 mu4 Q4 (x1, x2, x3, x4, x5, ()) (.inl (x1, (p, ((x3 + 1), (x4, (x5 ++ y, ())))))) := by
    intro p y hy he
    refine ⟨?_, by simp only [mu4]; omega, ?_⟩
    · simp only [pre4, Bool.and_eq_true, decide_eq_true_eq, List.length_append]
      exact ⟨hs, hx, by omega, by omega, by omega⟩
    · rintro ⟨o1, o2, o3, ⟨⟩⟩ ⟨q1, q2, q3⟩
      refine ⟨q1, q2.trans ?_, q3⟩
      show (x5 ++ y) ++ setMk x4 p (x1.drop (x3 + 1).toNat) = x5 ++ setMk x4 x2 (x1.drop x3.toNat)
      rw [he, show (x3 + 1).toNat = x3.toNat + 1 by omega, List.append_assoc]
   have l1 : ∀ a : Maker, decide (x5.length + (a :: ([] : List Maker)).length ≤ lim) = true := fun a => by
    simp only [decide_eq_true_eq, List.length_cons, List.length_nil, lim]; omega
   have l2 : ∀ a b : Maker, decide ((List.append x5 (a :: ([] : List Maker))).length + (b :: ([] : List Maker)).length ≤ lim) = true := fun a b => by
    simp only [decide_eq_true_eq, List.append_eq, List.length_append, List.length_cons, List.length_nil, lim]; omega
   have set1 : isMk x4.1 x4.2.1 e = true → x2 = false → setMk x4 x2 (x1.drop x3.toNat) = [x4] ++ setMk x4 true (x1.drop (x3.toNat + 1)) := by
    intro a b; rw [e1, b]; simp only [setMk, a, cond_true, cond_false]; rfl
   have set2 : isMk x4.1 x4.2.1 e = true → x2 = true → setMk x4 x2 (x1.drop x3.toNat) = [] ++ setMk x4 x2 (x1.drop (x3.toNat + 1)) := by
    intro a b; rw [e1, b]; simp only [setMk, a, cond_true]; rfl
   have set3 : isMk x4.1 x4.2.1 e = false → x2 = false → laterM e x4 = true → setMk x4 x2 (x1.drop x3.toNat) = [x4, e] ++ setMk x4 true (x1.drop (x3.toNat + 1)) := by
    intro a b c; rw [e1, b]; simp only [setMk, a, c, cond_false, Bool.not_false, Bool.and_self, cond_true]; rfl
   have set4 : isMk x4.1 x4.2.1 e = false → (!x2 && laterM e x4) = false → setMk x4 x2 (x1.drop x3.toNat) = [e] ++ setMk x4 x2 (x1.drop (x3.toNat + 1)) := by
    intro a b; rw [e1]; simp only [setMk, a, b, cond_false]; rfl
   have fA : ∀ {p : Bool}, (!p) = true → p = false := by intro p h; cases p <;> simp_all
   have fB : ∀ {p : Bool}, ¬ (!p) = true → p = true := by intro p h; cases p <;> simp_all
   have keep1 : ∀ (_ : setMk x4 x2 (x1.drop x3.toNat) = [e] ++ setMk x4 x2 (x1.drop (x3.toNat + 1))),
    Wp (if spec_l4Copy.pre e = true then letB (spec_l4Copy e) fun v => if decide (x5.length + (v :: ([] : List Maker)).length ≤ lim) = true then some (.inl (x1, (x2, ((x3 + 1), (x4, (List.append x5 (v :: ([] : List Maker)), ())))))) else none else none) (Step pre4 mu4 Q4 (x1, x2, x3, x4, x5, ())) :=
    fun h => W_if cp2 (W_let (W_if (l1 _) (W_some (nx x2 [e] (by simp) h))))
   refine W_if (decide_eq_true hlt) (W_if (decide_eq_true h1) (W_if (decide_eq_true hlt) (W_ite (fun a => ?_) fun a => ?_)))
   · rw [decide_eq_true_eq] at a
     refine W_ite (fun b => ?_) fun b => ?_
     · rw [decide_eq_true_eq] at b
       have hk : isMk x4.1 x4.2.1 e = true := by simp [isMk, a, b]
       refine W_ite (fun c => W_if cp1 (W_let (W_if (l1 _) (W_some (nx true [x4] (by simp) (set1 hk (fA c))))))) fun c => W_some ?_
       have := nx x2 [] (by simp) (set2 hk (fB c))
       rwa [List.append_nil] at this
     · rw [decide_eq_true_eq] at b
       have hk : isMk x4.1 x4.2.1 e = false := by simp [isMk, b]
       refine W_ite (fun c => ?_) fun c => ?_
       · refine W_ite (fun d => ?_) fun d => ?_
         · rw [decide_eq_true_eq] at d
           omega
         · refine W_ite (fun _ => W_ite (fun f => ?_) fun f => ?_) fun f => ?_
           · rw [decide_eq_true_eq] at f
             exact W_if cp1 (W_let (W_if (l1 _) (W_if cp2 (W_let (W_if (l2 _ _) (W_some (by have := nx true [x4, e] (by simp) (set3 hk (fA c) (by simp [laterM, a, f])); simpa [spec_l4Copy] using this)))))))
           · rw [decide_eq_true_eq] at f
             exact keep1 (set4 hk (by simp [laterM, a, f]))
           · exact absurd (decide_eq_true a) f
       · exact keep1 (set4 hk (by rw [fB c]; rfl))
   · rw [decide_eq_true_eq] at a
     have hk : isMk x4.1 x4.2.1 e = false := by simp [isMk, a]
     refine W_ite (fun c => ?_) fun c => ?_
     · refine W_ite (fun d => ?_) fun d => ?_
       · rw [decide_eq_true_eq] at d
         exact W_if cp1 (W_let (W_if (l1 _) (W_if cp2 (W_let (W_if (l2 _ _) (W_some (by have := nx true [x4, e] (by simp) (set3 hk (fA c) (by simp [laterM, d])); simpa [spec_l4Copy] using this)))))))
       · rw [decide_eq_true_eq] at d
         refine W_else (by rw [decide_eq_true_eq]; exact a) (keep1 (set4 hk (by simp [laterM, a, d])))
     · exact keep1 (set4 hk (by rw [fB c]; rfl))
 · refine W_else (by rw [decide_eq_true_eq]; exact hlt) (W_some ⟨rfl, ?_, by show x5.length ≤ 2 * x1.length; omega⟩)
   show x5 ++ cond x2 [] [x4] = x5 ++ setMk x4 x2 (x1.drop x3.toNat)
   rw [List.drop_eq_nil_of_le (by omega)]; rfl
noncomputable def fn4 : S4 → O4 := runF (fun (x : S4) => raw4 x.1 x.2.1 x.2.2.1 x.2.2.2.1 x.2.2.2.2.1) mu4
theorem ok4 (x1 : List Maker) (x2 : Bool) (x3 : Int) (x4 : Maker) (x5 : List Maker) (hp : pre4 (x1, (x2, (x3, (x4, (x5, ()))))) = true) : Rounds pre4 mu4 fn4 (x1, (x2, (x3, (x4, (x5, ()))))) (raw4 x1 x2 x3 x4 x5) := runF_ok wp4 hp
def pre (xs : List Maker) (m : Maker) : Bool := mksS xs && small m.2.2.2.2.1
abbrev wf (x0 : (List Maker)) (x1 : Maker) : Prop := wfA [(.val (.sl 0 zk21) .f), (.val zk21 .f)] (x0, (x1, ()))
noncomputable def raw (x0 : (List Maker)) (x1 : Maker) : Option (Unit × ((List Maker) × Unit)) :=
 if (spec_MakerSet.pre4 (x0, (false, ((0 : Int), (x1, (([] : List Maker), ())))))) = true then
 letB (spec_MakerSet.fn4 (x0, (false, ((0 : Int), (x1, (([] : List Maker), ())))))) fun v1 =>
 if (!v1.1) = true then
 if (spec_l4Copy.pre v1.2.1) = true then
 letB (spec_l4Copy v1.2.1) fun v2 =>
 if (decide (List.length v1.2.2.1 + List.length (v2 :: ([] : List Maker)) ≤ lim)) = true then
 some ((), ((List.append v1.2.2.1 (v2 :: ([] : List Maker))), ()))
 else
 none
 else
 none
 else
 some ((), v1.2.2)
 else
 none
theorem eq (x0 : List Maker) (x1 : Maker) (_ : wf x0 x1) (hp : pre x0 x1 = true) : raw x0 x1 = some ((), (MakerSet x0 x1, ())) := by
 simp only [pre, Bool.and_eq_true] at hp
 have hm := mksS_iff.1 hp.1
 refine W_eq ?_
 unfold raw
 have hq : pre4 (x0, (false, ((0 : Int), (x1, (([] : List Maker), ()))))) = true := by
  simp only [pre4, Bool.and_eq_true, decide_eq_true_eq, List.length_nil]; exact ⟨hp.1, hp.2, by omega, by omega, by omega⟩
 refine W_if hq (W_fact (runF_q wp4 hq : Q4 _ (fn4 _)) ?_)
 rintro ⟨o1, o2, o3, ⟨⟩⟩ ⟨q1, q2, q3⟩
 have q1 : o2 = x1 := q1
 have q2 : o3 ++ cond o1 [] [x1] = MakerSet x0 x1 := q2
 have q3 : o3.length ≤ 2 * x0.length := q3
 subst q1
 cases o1
 · refine W_if rfl (W_if (show spec_l4Copy.pre o2 = true from hp.2) (W_let (W_if (by simp only [decide_eq_true_eq, List.length_cons, List.length_nil, lim]; omega) (W_some q2))))
 · refine W_else Bool.false_ne_true (W_some ?_)
   rw [← q2]
   exact (List.append_nil _).symm
end spec_MakerSet
abbrev spec_MakerSet := MakerSet
def newRow (x : Row) (key text : List UInt8) (who t : Int) : Row := (x.1, (IntKind.wrap .i64 (x.2.1 + 1), (List.append x.2.2.1 ((x.2.1, (key, (text, (who, (t, ()))))) :: ([] : List Item)), x.2.2.2)))
def RowPut (x : Row) (key text : List UInt8) (who t : Int) : Row × (Int × Bool) :=
 if (RowOk x && RowOk (newRow x key text who t)) = true then (newRow x key text who t, (x.2.1, true)) else (x, (0, false))
theorem W_eq3 {β γ δ : Type} {m : Option (Unit × (β × (γ × (δ × Unit))))} {v : β × (γ × δ)} (h : Wp m fun r => (r.2.1, (r.2.2.1, r.2.2.2.1)) = v) : m = some ((), (v.1, (v.2.1, (v.2.2, ())))) := by
 obtain ⟨a, rfl, rfl⟩ := h
 rfl
def less {α : Type} (xs : List α) : Bool := decide (xs.length ≤ 16777000)
theorem less_iff {α : Type} {xs : List α} : less xs = true ↔ xs.length ≤ 16777000 := by simp [less]
theorem less_small {α : Type} {xs : List α} (h : less xs = true) : small xs = true := by rw [small_iff]; rw [less_iff] at h; omega
namespace spec_RowPut
def pre (x : Row) (_ _ : List UInt8) (_ _ : Int) : Bool := less x.2.2.1
abbrev wf (x0 : Row) (x1 : (List UInt8)) (x2 : (List UInt8)) (x3 : Int) (x4 : Int) : Prop := wfA [(.val zk19 .f), (.val .str .f), (.val .str .f), (.val (.int .i64) .f), (.val (.int .i64) .f)] (x0, (x1, (x2, (x3, (x4, ())))))
noncomputable def raw (x0 : Row) (x1 : (List UInt8)) (x2 : (List UInt8)) (x3 : Int) (x4 : Int) : Option (Unit × (Row × (Int × (Bool × Unit)))) :=
 if (spec_l3Copy.pre x0) = true then
 if (spec_RowOk.pre x0) = true then
 letB (RowOk x0) fun v1 =>
 if (!v1) = true then
 letB (spec_l3Copy x0) fun v2 =>
 some ((), (v2, ((0 : Int), (false, ()))))
 else
 letB (spec_l3Copy x0) fun v3 =>
 if (decide (List.length v3.2.2.1 + List.length ((x0.2.1, (x1, (x2, (x3, (x4, ()))))) :: ([] : List Item)) ≤ lim)) = true then
 if (spec_RowOk.pre (v3.1, ((IntKind.wrap .i64 (x0.2.1 + (1 : Int))), ((List.append v3.2.2.1 ((x0.2.1, (x1, (x2, (x3, (x4, ()))))) :: ([] : List Item))), v3.2.2.2)))) = true then
 letB (RowOk (v3.1, ((IntKind.wrap .i64 (x0.2.1 + (1 : Int))), ((List.append v3.2.2.1 ((x0.2.1, (x1, (x2, (x3, (x4, ()))))) :: ([] : List Item))), v3.2.2.2)))) fun v4 =>
 if (!v4) = true then
 if (spec_l3Copy.pre x0) = true then
 some ((), (v3, ((0 : Int), (false, ()))))
 else
 none
 else
 some ((), ((v3.1, ((IntKind.wrap .i64 (x0.2.1 + (1 : Int))), ((List.append v3.2.2.1 ((x0.2.1, (x1, (x2, (x3, (x4, ()))))) :: ([] : List Item))), v3.2.2.2))), (x0.2.1, (true, ()))))
 else
 none
 else
 none
 else
 none
 else
 none
theorem eq (x0 : Row) (x1 x2 : List UInt8) (x3 x4 : Int) (_ : wf x0 x1 x2 x3 x4) (hp : pre x0 x1 x2 x3 x4 = true) : raw x0 x1 x2 x3 x4 = some ((), ((RowPut x0 x1 x2 x3 x4).1, ((RowPut x0 x1 x2 x3 x4).2.1, ((RowPut x0 x1 x2 x3 x4).2.2, ())))) := by
 have hs : less x0.2.2.1 = true := hp
 have hs' := less_iff.1 hs
 have h0 := less_small hs
 refine W_eq3 ?_
 unfold raw
 rw [show spec_l3Copy x0 = x0 from rfl]
 have hn : spec_RowOk.pre (newRow x0 x1 x2 x3 x4) = true := by
  show small (List.append x0.2.2.1 _) = true
  rw [small_iff, List.append_eq, List.length_append, List.length_cons, List.length_nil]; omega
 refine W_if (show spec_l3Copy.pre x0 = true from h0) (W_if (show spec_RowOk.pre x0 = true from h0) (W_let (W_ite (fun c => ?_) fun c => ?_)))
 · refine W_let (W_some ?_)
   show (x0, ((0 : Int), false)) = _
   exact (if_neg (by cases h : RowOk x0 <;> simp_all)).symm
 · refine W_let (W_if (by simp only [decide_eq_true_eq, List.length_cons, List.length_nil, lim]; exact Nat.le_trans (Nat.add_le_add_right hs' 1) (by decide)) (W_if hn (W_let (W_ite (fun d => ?_) fun d => ?_))))
   · refine W_if (show spec_l3Copy.pre x0 = true from h0) (W_some ?_)
     show (x0, ((0 : Int), false)) = _
     refine (if_neg (fun h => ?_)).symm
     rw [Bool.and_eq_true] at h
     have d : (!RowOk (newRow x0 x1 x2 x3 x4)) = true := d
     rw [h.2] at d
     cases d
   · refine W_some ?_
     refine (if_pos ?_).symm
     have c : RowOk x0 = true := by cases h : RowOk x0 <;> simp_all
     have d : RowOk (newRow x0 x1 x2 x3 x4) = true := by
      cases h : RowOk (newRow x0 x1 x2 x3 x4)
      · exact absurd (show (!RowOk (newRow x0 x1 x2 x3 x4)) = true by rw [h]; rfl) d
      · rfl
     rw [c, d]; rfl
end spec_RowPut
abbrev spec_RowPut := RowPut
def zItem : Item := zd2
def RowGet (x : Row) (off : Int) : Item × Int :=
 if off < x.1 then (zItem, 1) else match x.2.2.1.find? (fun it => decide (off ≤ it.1)) with
  | some it => (it, 0)
  | none => (zItem, 2)
namespace spec_RowGet
abbrev S4 : Type := (Int × (Int × (Row × (Item × Unit))))
abbrev O4 : Type := ((Int × (Item × Unit)) ⊕ (Item × Unit))
def pre4 : S4 → Bool := fun (_, x2, x3, _) => small x3.2.2.1 && (decide (0 ≤ x2) && decide (x2 ≤ (x3.2.2.1.length : Int)))
def mu4 : S4 → Nat := fun (_, x2, x3, _) => x3.2.2.1.length - x2.toNat
def fn4 : S4 → O4 := fun (x1, x2, x3, x4, _) => match (x3.2.2.1.drop x2.toNat).find? (fun it => decide (x1 ≤ it.1)) with
 | some it => .inl (0, (it, ()))
 | none => .inr (x4, ())
noncomputable def raw4 (x1 : Int) (x2 : Int) (x3 : Row) (x4 : Item) : Option ((Int × (Int × (Row × (Item × Unit)))) ⊕ ((Int × (Item × Unit)) ⊕ (Item × Unit))) :=
 if (decide (x2 < ((List.length x3.2.2.1 : Nat) : Int))) = true then
 if (decide ((0 : Int) ≤ x2)) = true then
 if (decide (x2 < ((List.length x3.2.2.1 : Nat) : Int))) = true then
 if (decide (x1 ≤ (List.getD x3.2.2.1 (Int.toNat x2) zd2).1)) = true then
 if (decide ((0 : Int) ≤ x2)) = true then
 if (decide (x2 < ((List.length x3.2.2.1 : Nat) : Int))) = true then
 some (.inr (.inl ((0 : Int), ((List.getD x3.2.2.1 (Int.toNat x2) zd2), ()))))
 else
 none
 else
 none
 else
 some (.inl (x1, ((IntKind.wrap .i64 (x2 + (1 : Int))), (x3, (x4, ())))))
 else
 none
 else
 none
 else
 some (.inr (.inr (x4, ())))
abbrev wf (x0 : Row) (x1 : Int) : Prop := wfA [(.val zk19 .f), (.val (.int .i64) .f)] (x0, (x1, ()))
noncomputable def raw (x0 : Row) (x1 : Int) : Option (Unit × (Item × (Int × Unit))) :=
 if (decide (x1 < x0.1)) = true then
  some ((), (zd2, ((1 : Int), ())))
 else
  if (spec_RowGet.pre4 (x1, ((0 : Int), (x0, (zd2, ()))))) = true then
   letB (spec_RowGet.fn4 (x1, ((0 : Int), (x0, (zd2, ()))))) fun v1 =>
   match v1 with
   | .inl y =>
    some ((), (y.2.1, (y.1, ())))
   | .inr y =>
    some ((), (zd2, ((2 : Int), ())))
  else
   none
theorem ok4 (x1 x2 : Int) (x3 : Row) (x4 : Item) (hp : pre4 (x1, (x2, (x3, (x4, ())))) = true) : Rounds pre4 mu4 fn4 (x1, (x2, (x3, (x4, ())))) (raw4 x1 x2 x3 x4) := by
 simp only [pre4, Bool.and_eq_true, decide_eq_true_eq] at hp
 obtain ⟨hs, h1, h2⟩ := hp
 have hs' := small_iff.1 hs
 unfold raw4
 by_cases hlt : x2 < (x3.2.2.1.length : Int)
 · have hn : x2.toNat < x3.2.2.1.length := by omega
   have e1 := List.drop_eq_getElem_cons hn
   refine R_if (decide_eq_true hlt) (R_if (decide_eq_true h1) (R_if (decide_eq_true hlt) ?_))
   rw [getD_get hn, w64 (n := x2 + 1) (by omega) (by omega)]
   by_cases c : x1 ≤ x3.2.2.1[x2.toNat].1
   · refine R_if (decide_eq_true c) (R_if (decide_eq_true h1) (R_if (decide_eq_true hlt) ?_))
     simp only [Rounds, fn4]
     rw [e1, List.find?_cons, decide_eq_true c]
   · refine R_else (by rw [decide_eq_true_eq]; exact c) ⟨?_, by simp only [mu4]; omega, ?_⟩
     · simp only [pre4, Bool.and_eq_true, decide_eq_true_eq]; exact ⟨hs, by omega, by omega⟩
     · simp only [fn4]
       rw [e1, List.find?_cons, decide_eq_false c, show (x2 + 1).toNat = x2.toNat + 1 by omega]
 · refine R_else (by rw [decide_eq_true_eq]; exact hlt) ?_
   simp only [Rounds, fn4]
   rw [List.drop_eq_nil_of_le (by omega)]; rfl
def pre (x : Row) (_ : Int) : Bool := small x.2.2.1
theorem eq (x0 : Row) (x1 : Int) (_ : wf x0 x1) (hp : pre x0 x1 = true) : raw x0 x1 = some ((), ((RowGet x0 x1).1, ((RowGet x0 x1).2, ()))) := by
 have hs : small x0.2.2.1 = true := hp
 refine W_eq2 ?_
 unfold raw RowGet
 by_cases c1 : x1 < x0.1
 · rw [if_pos (decide_eq_true c1), if_pos c1]; exact W_some rfl
 rw [if_neg (by rw [decide_eq_true_eq]; exact c1), if_neg c1]
 refine W_if (show pre4 _ = true by simp only [pre4, Bool.and_eq_true, decide_eq_true_eq]; exact ⟨hs, by omega, by omega⟩) (W_let ?_)
 simp only [fn4, Int.toNat_zero, List.drop_zero]
 cases x0.2.2.1.find? (fun it => decide (x1 ≤ it.1)) <;> exact W_some rfl
end spec_RowGet
abbrev spec_RowGet := RowGet
def blkOf (n len : Int) : Int := IntKind.wrap .i64 (Int.tdiv n len)
def trimL (len keep lastB : Int) : Nat → Int → List Item → Int × List Item
 | n + 1, st, it :: r => if keep < ((it :: r).length : Int) ∧ ¬ blkOf it.1 len = lastB then trimL len keep lastB n (IntKind.wrap .i64 (IntKind.wrap .i64 (blkOf it.1 len + 1) * len)) ((it :: r).dropWhile fun y => decide (blkOf y.1 len = blkOf it.1 len)) else (st, it :: r)
 | _, st, l => (st, l)
def RowTrim (x : Row) (len keep : Int) : Row :=
 if (decide (1 ≤ len) && (decide (0 ≤ keep) && RowOk x)) = true then
  ((trimL len keep (blkOf (IntKind.wrap .i64 (x.2.1 - 1)) len) x.2.2.1.length x.1 x.2.2.1).1, (x.2.1, ((trimL len keep (blkOf (IntKind.wrap .i64 (x.2.1 - 1)) len) x.2.2.1.length x.1 x.2.2.1).2, ())))
 else x
theorem dropWhile_drop {α : Type} {p : α → Bool} : (l : List α) → l.drop (l.takeWhile p).length = l.dropWhile p
 | [] => rfl
 | a :: r => by
  cases h : p a <;> simp [List.takeWhile_cons, List.dropWhile_cons, h, dropWhile_drop r]
theorem dropWhile_len {α : Type} {p : α → Bool} : (l : List α) → (l.dropWhile p).length ≤ l.length
 | [] => Nat.le_refl _
 | a :: r => by
  cases h : p a
  · simp [List.dropWhile_cons, h]
  · have := dropWhile_len (p := p) r
    simp only [List.dropWhile_cons, h, if_true, List.length_cons]; omega
theorem trimL_fuel {len keep lastB : Int} : (n m : Nat) → (st : Int) → (l : List Item) → l.length ≤ n → l.length ≤ m → trimL len keep lastB n st l = trimL len keep lastB m st l
 | 0, 0, _, _, _, _ => rfl
 | 0, m + 1, st, [], _, _ => rfl
 | n + 1, 0, st, [], _, _ => rfl
 | n + 1, m + 1, st, [], _, _ => rfl
 | n + 1, m + 1, st, it :: r, h1, h2 => by
  simp only [trimL]
  split
  · refine trimL_fuel n m _ _ ?_ ?_
    all_goals
     rw [List.dropWhile_cons, if_pos (by simp)]
     have := dropWhile_len (p := fun y : Item => decide (blkOf y.1 len = blkOf it.1 len)) r
     simp only [List.length_cons] at h1 h2
     omega
  · rfl
 | 0, _ + 1, _, _ :: _, h, _ => by simp at h
 | _ + 1, 0, _, _ :: _, _, h => by simp at h
namespace spec_RowTrim
abbrev S9 : Type := (Int × (Int × zt30))
abbrev O9 : Type := (Int × (Int × zt30))
abbrev S4 : Type := zt30
abbrev O4 : Type := ((Int × (Int × (Unit × ((List Item) × Unit)))) ⊕ zt13)
def pre9 : S9 → Bool := fun (x1, _, _, x4, _, _, _, _, _, _, _, _, x13, _) => decide (1 ≤ x1) && (small x13 && (decide (0 ≤ x4) && decide (x4 ≤ (x13.length : Int))))
def mu9 : S9 → Nat := fun (_, _, _, x4, _, _, _, _, _, _, _, _, x13, _) => x13.length - x4.toNat
def fn9 : S9 → O9 := fun (x1, x2, x3, x4, x5, x6, x7, x8, x9, x10, x11, x12, x13, x14) => (x1, x2, x3, x4 + (((x13.drop x4.toNat).takeWhile fun y => decide (blkOf y.1 x1 = x3)).length : Int), x5, x6, x7, x8, x9, x10, x11, x12, x13, x14)
noncomputable def raw9 (x1 : Int) (x2 : Int) (x3 : Int) (x4 : Int) (x5 : Row) (x6 : Int) (x7 : Int) (x8 : Unit) (x9 : (List Item)) (x10 : Int) (x11 : Int) (x12 : Unit) (x13 : (List Item)) : Option ((Int × (Int × zt30)) ⊕ (Int × (Int × zt30))) :=
 if (decide (x4 < ((List.length x13 : Nat) : Int))) = true then
 if (decide ((0 : Int) ≤ x4)) = true then
 if (decide (x4 < ((List.length x13 : Nat) : Int))) = true then
 if (!(decide (x1 = (0 : Int)))) = true then
 if (decide ((IntKind.wrap .i64 (Int.tdiv (List.getD x13 (Int.toNat x4) zd2).1 x1)) = x3)) = true then
 some (.inl (x1, (x2, (x3, ((IntKind.wrap .i64 (x4 + (1 : Int))), (x5, (x6, (x7, (x8, (x9, (x10, (x11, (x12, (x13, ()))))))))))))))
 else
 some (.inr (x1, (x2, (x3, (x4, (x5, (x6, (x7, (x8, (x9, (x10, (x11, (x12, (x13, ()))))))))))))))
 else
 none
 else
 none
 else
 none
 else
 some (.inr (x1, (x2, (x3, (x4, (x5, (x6, (x7, (x8, (x9, (x10, (x11, (x12, (x13, ()))))))))))))))
theorem ok9 (x1 x2 x3 x4 : Int) (x5 : Row) (x6 x7 : Int) (x8 : Unit) (x9 : List Item) (x10 x11 : Int) (x12 : Unit) (x13 : List Item) (hp : pre9 (x1, (x2, (x3, (x4, (x5, (x6, (x7, (x8, (x9, (x10, (x11, (x12, (x13, ()))))))))))))) = true) :
 Rounds pre9 mu9 fn9 (x1, (x2, (x3, (x4, (x5, (x6, (x7, (x8, (x9, (x10, (x11, (x12, (x13, ()))))))))))))) (raw9 x1 x2 x3 x4 x5 x6 x7 x8 x9 x10 x11 x12 x13) := by
 simp only [pre9, Bool.and_eq_true, decide_eq_true_eq] at hp
 obtain ⟨h0, hs, h1, h2⟩ := hp
 have hs' := small_iff.1 hs
 unfold raw9
 by_cases hlt : x4 < (x13.length : Int)
 · have hn : x4.toNat < x13.length := by omega
   have e1 := List.drop_eq_getElem_cons hn
   refine R_if (decide_eq_true hlt) (R_if (decide_eq_true h1) (R_if (decide_eq_true hlt) (R_if (by simp only [Bool.not_eq_true', decide_eq_false_iff_not]; omega) ?_)))
   rw [getD_get hn, w64 (n := x4 + 1) (by omega) (by omega)]
   by_cases c : blkOf x13[x4.toNat].1 x1 = x3
   · refine R_if (decide_eq_true c) ⟨?_, by simp only [mu9]; omega, ?_⟩
     · simp only [pre9, Bool.and_eq_true, decide_eq_true_eq]; exact ⟨h0, hs, by omega, by omega⟩
     · simp only [fn9]
       rw [e1, List.takeWhile_cons, decide_eq_true c, show (x4 + 1).toNat = x4.toNat + 1 by omega]
       simp only [if_true, List.length_cons]
       rw [show ∀ n : Nat, x4 + 1 + (n : Int) = x4 + ((n + 1 : Nat) : Int) from fun n => by omega]
   · refine R_else (by rw [decide_eq_true_eq]; exact c) ?_
     simp only [Rounds, fn9]
     rw [e1, List.takeWhile_cons, decide_eq_false c]
     simp
 · refine R_else (by rw [decide_eq_true_eq]; exact hlt) ?_
   simp only [Rounds, fn9]
   rw [List.drop_eq_nil_of_le (by omega)]
   simp
def pre4 : S4 → Bool := fun (x1, x2, _, _, _, _, _, _, _, _, x11, _) => decide (1 ≤ x1) && (decide (0 ≤ x2) && small x11)
def mu4 : S4 → Nat := fun (_, _, _, _, _, _, _, _, _, _, x11, _) => x11.length
def Q4 (s : S4) (o : O4) : Prop := match s, o with
 | (x1, x2, x3, _, _, _, _, x8, x9, _, x11, _), .inl (y1, y2, _, y4, _) => y2 = x9 ∧ (y1, y4) = trimL x1 x2 (blkOf (IntKind.wrap .i64 (x3.2.1 - 1)) x1) x11.length x8 x11
 | (x1, x2, x3, _, _, _, _, x8, x9, _, x11, _), .inr (_, _, _, _, y5, y6, _, y8, _) => y6 = x9 ∧ (y5, y8) = trimL x1 x2 (blkOf (IntKind.wrap .i64 (x3.2.1 - 1)) x1) x11.length x8 x11
noncomputable def raw4 (x1 : Int) (x2 : Int) (x3 : Row) (x4 : Int) (x5 : Int) (x6 : Unit) (x7 : (List Item)) (x8 : Int) (x9 : Int) (x10 : Unit) (x11 : (List Item)) : Option (zt30 ⊕ ((Int × (Int × (Unit × ((List Item) × Unit)))) ⊕ zt13)) :=
 if (decide (x2 < ((List.length x11 : Nat) : Int))) = true then
 if (decide ((0 : Int) ≤ (0 : Int))) = true then
 if (decide ((0 : Int) < ((List.length x11 : Nat) : Int))) = true then
 if (!(decide (x1 = (0 : Int)))) = true then
 if (!(decide (x1 = (0 : Int)))) = true then
 if (decide ((IntKind.wrap .i64 (Int.tdiv (List.getD x11 (Int.toNat (0 : Int)) zd2).1 x1)) = (IntKind.wrap .i64 (Int.tdiv (IntKind.wrap .i64 (x3.2.1 - (1 : Int))) x1)))) = true then
 some (.inr (.inl (x8, (x9, (x10, (x11, ()))))))
 else
 if (spec_RowTrim.pre9 (x1, (x2, ((IntKind.wrap .i64 (Int.tdiv (List.getD x11 (Int.toNat (0 : Int)) zd2).1 x1)), ((0 : Int), (x3, (x4, (x5, (x6, (x7, (x8, (x9, (x10, (x11, ())))))))))))))) = true then
 letB (spec_RowTrim.fn9 (x1, (x2, ((IntKind.wrap .i64 (Int.tdiv (List.getD x11 (Int.toNat (0 : Int)) zd2).1 x1)), ((0 : Int), (x3, (x4, (x5, (x6, (x7, (x8, (x9, (x10, (x11, ())))))))))))))) fun v1 =>
 if (decide ((0 : Int) ≤ v1.2.2.2.1)) = true then
 if (decide (v1.2.2.2.1 ≤ ((List.length v1.2.2.2.2.2.2.2.2.2.2.2.2.1 : Nat) : Int))) = true then
 if (decide (((List.length v1.2.2.2.2.2.2.2.2.2.2.2.2.1 : Nat) : Int) ≤ ((List.length v1.2.2.2.2.2.2.2.2.2.2.2.2.1 : Nat) : Int))) = true then
 if (decide (List.length ([] : List Item) + List.length (dropTake (Int.toNat v1.2.2.2.1) (Int.toNat ((List.length v1.2.2.2.2.2.2.2.2.2.2.2.2.1 : Nat) : Int)) v1.2.2.2.2.2.2.2.2.2.2.2.2.1) ≤ lim)) = true then
 some (.inl (v1.1, (v1.2.1, (v1.2.2.2.2.1, (v1.2.2.2.2.2.1, (v1.2.2.2.2.2.2.1, (v1.2.2.2.2.2.2.2.1, (v1.2.2.2.2.2.2.2.2.1, ((IntKind.wrap .i64 ((IntKind.wrap .i64 (v1.2.2.1 + (1 : Int))) * v1.1)), (v1.2.2.2.2.2.2.2.2.2.2.1, (v1.2.2.2.2.2.2.2.2.2.2.2.1, ((List.append ([] : List Item) (dropTake (Int.toNat v1.2.2.2.1) (Int.toNat ((List.length v1.2.2.2.2.2.2.2.2.2.2.2.2.1 : Nat) : Int)) v1.2.2.2.2.2.2.2.2.2.2.2.2.1)), ()))))))))))))
 else
 none
 else
 none
 else
 none
 else
 none
 else
 none
 else
 none
 else
 none
 else
 none
 else
 none
 else
 some (.inr (.inr (x4, (x5, (x6, (x7, (x8, (x9, (x10, (x11, ()))))))))))
theorem wp4 : ∀ s, pre4 s = true → Wp ((fun (x : S4) => raw4 x.1 x.2.1 x.2.2.1 x.2.2.2.1 x.2.2.2.2.1 x.2.2.2.2.2.1 x.2.2.2.2.2.2.1 x.2.2.2.2.2.2.2.1 x.2.2.2.2.2.2.2.2.1 x.2.2.2.2.2.2.2.2.2.1 x.2.2.2.2.2.2.2.2.2.2.1) s) (Step pre4 mu4 Q4 s) := by
 rintro ⟨x1, x2, x3, x4, x5, ⟨⟩, x7, x8, x9, ⟨⟩, x11, ⟨⟩⟩ hp
 simp only [pre4, Bool.and_eq_true, decide_eq_true_eq] at hp
 obtain ⟨h0, h1, hs⟩ := hp
 have hs' := small_iff.1 hs
 show Wp (raw4 x1 x2 x3 x4 x5 () x7 x8 x9 () x11) _
 unfold raw4
 have hz : (!decide (x1 = 0)) = true := by simp only [Bool.not_eq_true', decide_eq_false_iff_not]; omega
 by_cases hlt : x2 < (x11.length : Int)
 · match x11, hs, hs', hlt with
   | [], _, _, hlt => simp only [List.length_nil] at hlt; omega
   | it :: r, hs, hs', hlt =>
    refine W_if (decide_eq_true hlt) (W_if (by decide) (W_if (by simp only [decide_eq_true_eq, List.length_cons]; omega) (W_if hz (W_if hz (W_ite (fun c => ?_) fun c => ?_)))))
    · rw [decide_eq_true_eq] at c
      refine W_some ⟨rfl, ?_⟩
      simp only [List.length_cons, trimL]
      rw [if_neg (fun h => h.2 c)]
    · rw [decide_eq_true_eq] at c
      have c : ¬ blkOf it.1 x1 = blkOf (IntKind.wrap .i64 (x3.2.1 - 1)) x1 := c
      have hq : pre9 (x1, (x2, (blkOf it.1 x1, ((0 : Int), (x3, (x4, (x5, ((), (x7, (x8, (x9, ((), (it :: r, ()))))))))))))) = true := by
       simp only [pre9, Bool.and_eq_true, decide_eq_true_eq]; exact ⟨h0, hs, by omega, by omega⟩
      refine W_if hq (W_let ?_)
      have hf : fn9 (x1, (x2, (IntKind.wrap .i64 (Int.tdiv ((it :: r).getD (Int.toNat 0) zd2).1 x1), ((0 : Int), (x3, (x4, (x5, ((), (x7, (x8, (x9, ((), (it :: r, ()))))))))))))) = (x1, (x2, (blkOf it.1 x1, ((((it :: r).takeWhile fun y => decide (blkOf y.1 x1 = blkOf it.1 x1)).length : Int), (x3, (x4, (x5, ((), (x7, (x8, (x9, ((), (it :: r, ()))))))))))))) := by
       show (x1, (x2, (blkOf it.1 x1, (0 + _, _)))) = _
       rw [Int.zero_add]; rfl
      rw [hf]
      have hl : ((it :: r).takeWhile fun y => decide (blkOf y.1 x1 = blkOf it.1 x1)).length ≤ (it :: r).length := (List.takeWhile_sublist _).length_le
      simp only []
      rw [drop_parts (by omega)]
      refine W_if (decide_eq_true (by omega)) (W_if (decide_eq_true (by omega)) (W_if (decide_eq_true (Int.le_refl _)) (W_if ?_ (W_some ?_))))
      · simp only [decide_eq_true_eq, List.length_nil, dropTake, List.length_take, List.length_drop, lim]; omega
      · rw [show (((List.takeWhile (fun y => decide (blkOf y.1 x1 = blkOf it.1 x1)) (it :: r)).length : Nat) : Int).toNat = (List.takeWhile (fun y => decide (blkOf y.1 x1 = blkOf it.1 x1)) (it :: r)).length from Int.toNat_natCast _, dropWhile_drop]
        have hd : ((it :: r).dropWhile fun y => decide (blkOf y.1 x1 = blkOf it.1 x1)).length ≤ r.length := by
         rw [List.dropWhile_cons, if_pos (by simp)]
         exact dropWhile_len r
        have hs2 : r.length + 1 ≤ 16777216 := by simpa using hs'
        have key : trimL x1 x2 (blkOf (IntKind.wrap .i64 (x3.2.1 - 1)) x1) ((it :: r).dropWhile fun y => decide (blkOf y.1 x1 = blkOf it.1 x1)).length (IntKind.wrap .i64 (IntKind.wrap .i64 (blkOf it.1 x1 + 1) * x1)) ((it :: r).dropWhile fun y => decide (blkOf y.1 x1 = blkOf it.1 x1)) = trimL x1 x2 (blkOf (IntKind.wrap .i64 (x3.2.1 - 1)) x1) (it :: r).length x8 (it :: r) := by
         rw [List.length_cons]
         conv => rhs; unfold trimL
         rw [if_pos ⟨hlt, c⟩]
         exact trimL_fuel _ _ _ _ (Nat.le_refl _) hd
        refine ⟨?_, ?_, fun o ho => ?_⟩
        · simp only [pre4, Bool.and_eq_true, decide_eq_true_eq, small_iff]; exact ⟨h0, h1, by omega⟩
        · show List.length _ < (it :: r).length
          simp only [List.length_cons]; omega
        · cases o with
          | inl y => exact ⟨ho.1, ho.2.trans key⟩
          | inr y => exact ⟨ho.1, ho.2.trans key⟩
 · refine W_else (by rw [decide_eq_true_eq]; exact hlt) (W_some ⟨rfl, ?_⟩)
   match x11, hlt with
   | [], _ => rfl
   | it :: r, hlt =>
    simp only [List.length_cons, trimL]
    rw [if_neg (fun h => hlt h.1)]
noncomputable def fn4 : S4 → O4 := runS (fun (x : S4) => raw4 x.1 x.2.1 x.2.2.1 x.2.2.2.1 x.2.2.2.2.1 x.2.2.2.2.2.1 x.2.2.2.2.2.2.1 x.2.2.2.2.2.2.2.1 x.2.2.2.2.2.2.2.2.1 x.2.2.2.2.2.2.2.2.2.1 x.2.2.2.2.2.2.2.2.2.2.1) mu4
theorem ok4 (x1 x2 : Int) (x3 : Row) (x4 x5 : Int) (x6 : Unit) (x7 : List Item) (x8 x9 : Int) (x10 : Unit) (x11 : List Item) (hp : pre4 (x1, (x2, (x3, (x4, (x5, (x6, (x7, (x8, (x9, (x10, (x11, ()))))))))))) = true) :
 Rounds pre4 mu4 fn4 (x1, (x2, (x3, (x4, (x5, (x6, (x7, (x8, (x9, (x10, (x11, ()))))))))))) (raw4 x1 x2 x3 x4 x5 x6 x7 x8 x9 x10 x11) := runS_ok wp4 hp
def pre (x : Row) (_ _ : Int) : Bool := small x.2.2.1
abbrev wf (x0 : Row) (x1 : Int) (x2 : Int) : Prop := wfA [(.val zk19 .f), (.val (.int .i64) .f), (.val (.int .i64) .f)] (x0, (x1, (x2, ())))
noncomputable def raw (x0 : Row) (x1 : Int) (x2 : Int) : Option (Unit × (Row × Unit)) :=
 if (spec_l3Copy.pre x0) = true then
  if (decide (x1 < (1 : Int))) = true then
   letB (spec_l3Copy x0) fun v1 =>
   some ((), (v1, ()))
  else
   if (decide (x2 < (0 : Int))) = true then
    letB (spec_l3Copy x0) fun v2 =>
    some ((), (v2, ()))
   else
    if (spec_RowOk.pre x0) = true then
     letB (RowOk x0) fun v3 =>
     if (!v3) = true then
      letB (spec_l3Copy x0) fun v4 =>
      some ((), (v4, ()))
     else
      letB (spec_l3Copy x0) fun v5 =>
      if (spec_RowTrim.pre4 (x1, (x2, (x0, ((0 : Int), ((0 : Int), ((), (([] : List Item), (v5.1, (v5.2.1, (v5.2.2.2, v5.2.2))))))))))) = true then
       letB (spec_RowTrim.fn4 (x1, (x2, (x0, ((0 : Int), ((0 : Int), ((), (([] : List Item), (v5.1, (v5.2.1, (v5.2.2.2, v5.2.2))))))))))) fun v6 =>
       match v6 with
       | .inl y =>
        some ((), ((y.1, (y.2.1, (y.2.2.2.1, y.2.2.1))), ()))
       | .inr y =>
        some ((), ((y.2.2.2.2.1, (y.2.2.2.2.2.1, (y.2.2.2.2.2.2.2.1, y.2.2.2.2.2.2.1))), ()))
      else
       none
    else
     none
 else
  none
theorem eq (x0 : Row) (x1 x2 : Int) (_ : wf x0 x1 x2) (hp : pre x0 x1 x2 = true) : raw x0 x1 x2 = some ((), (RowTrim x0 x1 x2, ())) := by
 have hs : small x0.2.2.1 = true := hp
 refine W_eq ?_
 unfold raw
 rw [show spec_l3Copy x0 = x0 from rfl]
 refine W_if (show spec_l3Copy.pre x0 = true from hs) ?_
 have no : (decide (1 ≤ x1) && (decide (0 ≤ x2) && RowOk x0)) = false → RowTrim x0 x1 x2 = x0 := fun h => if_neg (by rw [h]; exact Bool.false_ne_true)
 by_cases c1 : x1 < 1
 · exact W_if (decide_eq_true c1) (W_let (W_some (no (by rw [decide_eq_false (p := 1 ≤ x1) (by omega)]; rfl)).symm))
 refine W_else (by rw [decide_eq_true_eq]; exact c1) ?_
 by_cases c2 : x2 < 0
 · exact W_if (decide_eq_true c2) (W_let (W_some (no (by rw [decide_eq_false (p := 0 ≤ x2) (by omega), Bool.false_and, Bool.and_false])).symm))
 refine W_else (by rw [decide_eq_true_eq]; exact c2) (W_if (show spec_RowOk.pre x0 = true from hs) (W_let ?_))
 cases c3 : RowOk x0
 · exact W_if rfl (W_let (W_some (no (by rw [c3, Bool.and_false, Bool.and_false])).symm))
 refine W_else (by decide) (W_let ?_)
 have hq : pre4 (x1, (x2, (x0, ((0 : Int), ((0 : Int), ((), (([] : List Item), (x0.1, (x0.2.1, (x0.2.2.2, x0.2.2)))))))))) = true := by
  simp only [pre4, Bool.and_eq_true, decide_eq_true_eq]; exact ⟨by omega, by omega, hs⟩
 rw [show RowTrim x0 x1 x2 = _ from if_pos (by rw [c3, decide_eq_true (p := 1 ≤ x1) (by omega), decide_eq_true (p := 0 ≤ x2) (by omega)]; rfl)]
 refine W_if hq (W_fact (runS_q wp4 hq : Q4 _ (fn4 _)) fun o ho => ?_)
 cases o with
 | inl y =>
  obtain ⟨y1, y2, y3, y4, ⟨⟩⟩ := y
  obtain ⟨q1, q2⟩ := ho
  refine W_some ?_
  show (y1, (y2, (y4, ()))) = _
  rw [← q2, q1]
 | inr y =>
  obtain ⟨_, _, _, _, y5, y6, ⟨⟩, y8, ⟨⟩⟩ := y
  obtain ⟨q1, q2⟩ := ho
  refine W_some ?_
  show (y5, (y6, (y8, ()))) = _
  rw [← q2, q1]
end spec_RowTrim
abbrev spec_RowTrim := RowTrim
def behind (x : Row) (i : Int) : Bool := (x.2.2.1.drop (i.toNat + 1)).any fun y => y.2.1 == (x.2.2.1.getD i.toNat zd2).2.1
namespace spec_l3Behind
abbrev S2 : Type := (Int × (Int × (Row × Unit)))
abbrev O2 : Type := ((Bool × Unit) ⊕ Unit)
def pre2 : S2 → Bool := fun (x1, x2, x3, _) => small x3.2.2.1 && (decide (0 ≤ x1) && (decide (x1 < (x3.2.2.1.length : Int)) && (decide (0 ≤ x2) && decide (x2 ≤ (x3.2.2.1.length : Int)))))
def mu2 : S2 → Nat := fun (_, x2, x3, _) => x3.2.2.1.length - x2.toNat
def fn2 : S2 → O2 := fun (x1, x2, x3, _) => cond ((x3.2.2.1.drop x2.toNat).any fun y => y.2.1 == (x3.2.2.1.getD x1.toNat zd2).2.1) (.inl (true, ())) (.inr ())
noncomputable def raw2 (x1 : Int) (x2 : Int) (x3 : Row) : Option ((Int × (Int × (Row × Unit))) ⊕ ((Bool × Unit) ⊕ Unit)) :=
 if (decide (x2 < ((List.length x3.2.2.1 : Nat) : Int))) = true then
 if (decide ((0 : Int) ≤ x2)) = true then
 if (decide (x2 < ((List.length x3.2.2.1 : Nat) : Int))) = true then
 if (decide ((0 : Int) ≤ x1)) = true then
 if (decide (x1 < ((List.length x3.2.2.1 : Nat) : Int))) = true then
 if ((List.getD x3.2.2.1 (Int.toNat x2) zd2).2.1 == (List.getD x3.2.2.1 (Int.toNat x1) zd2).2.1) = true then
 some (.inr (.inl (true, ())))
 else
 some (.inl (x1, ((IntKind.wrap .i64 (x2 + (1 : Int))), (x3, ()))))
 else
 none
 else
 none
 else
 none
 else
 none
 else
 some (.inr (.inr ()))
abbrev wf (x0 : Row) (x1 : Int) : Prop := wfA [(.val zk19 .f), (.val (.int .i64) .f)] (x0, (x1, ()))
noncomputable def raw (x0 : Row) (x1 : Int) : Option zt28 :=
 if (spec_l3Behind.pre2 (x1, ((IntKind.wrap .i64 (x1 + (1 : Int))), (x0, ())))) = true then
  letB (spec_l3Behind.fn2 (x1, ((IntKind.wrap .i64 (x1 + (1 : Int))), (x0, ())))) fun v1 =>
  match v1 with
  | .inl y =>
   some ((), y)
  | .inr y =>
   some ((), (false, ()))
 else
  none
theorem ok2 (x1 x2 : Int) (x3 : Row) (hp : pre2 (x1, (x2, (x3, ()))) = true) : Rounds pre2 mu2 fn2 (x1, (x2, (x3, ()))) (raw2 x1 x2 x3) := by
 simp only [pre2, Bool.and_eq_true, decide_eq_true_eq] at hp
 obtain ⟨hs, k0, k1, h1, h2⟩ := hp
 have hs' := small_iff.1 hs
 unfold raw2
 by_cases hlt : x2 < (x3.2.2.1.length : Int)
 · have hn : x2.toNat < x3.2.2.1.length := by omega
   have e1 := List.drop_eq_getElem_cons hn
   refine R_if (decide_eq_true hlt) (R_if (decide_eq_true h1) (R_if (decide_eq_true hlt) (R_if (decide_eq_true k0) (R_if (decide_eq_true k1) ?_))))
   rw [getD_get hn, w64 (n := x2 + 1) (by omega) (by omega)]
   cases c : (x3.2.2.1[x2.toNat].2.1 == (x3.2.2.1.getD x1.toNat zd2).2.1)
   · refine R_else (by decide) ⟨?_, by simp only [mu2]; omega, ?_⟩
     · simp only [pre2, Bool.and_eq_true, decide_eq_true_eq]; exact ⟨hs, k0, k1, by omega, by omega⟩
     · simp only [fn2]
       rw [e1, List.any_cons, c, Bool.false_or, show (x2 + 1).toNat = x2.toNat + 1 by omega]
   · refine R_if rfl ?_
     simp only [Rounds, fn2]
     rw [e1, List.any_cons, c, Bool.true_or]; rfl
 · refine R_else (by rw [decide_eq_true_eq]; exact hlt) ?_
   simp only [Rounds, fn2]
   rw [List.drop_eq_nil_of_le (by omega)]; rfl
def pre (x : Row) (i : Int) : Bool := small x.2.2.1 && (decide (0 ≤ i) && decide (i < (x.2.2.1.length : Int)))
theorem eq (x0 : Row) (x1 : Int) (_ : wf x0 x1) (hp : pre x0 x1 = true) : raw x0 x1 = some ((), (behind x0 x1, ())) := by
 simp only [pre, Bool.and_eq_true, decide_eq_true_eq] at hp
 obtain ⟨hs, k0, k1⟩ := hp
 have hs' := small_iff.1 hs
 unfold raw behind
 rw [w64 (n := x1 + 1) (by omega) (by omega)]
 refine E_if (show pre2 _ = true by simp only [pre2, Bool.and_eq_true, decide_eq_true_eq]; exact ⟨hs, k0, k1, by omega, by omega⟩) (E_let ?_)
 simp only [fn2]
 rw [show (x1 + 1).toNat = x1.toNat + 1 by omega]
 cases (x0.2.2.1.drop (x1.toNat + 1)).any fun y => y.2.1 == (x0.2.2.1.getD x1.toNat zd2).2.1 <;> rfl
end spec_l3Behind
abbrev spec_l3Behind := behind
def packL (len lastB : Int) : List Item → List Item
 | [] => []
 | it :: r => cond (it.2.1 == ([] : List UInt8) || (!(r.any fun y => y.2.1 == it.2.1) || decide (blkOf it.1 len = lastB))) (it :: packL len lastB r) (packL len lastB r)
theorem packL_cons {len lastB : Int} {it : Item} {r : List Item} : packL len lastB (it :: r) = cond (it.2.1 == ([] : List UInt8) || (!(r.any fun y => y.2.1 == it.2.1) || decide (blkOf it.1 len = lastB))) (it :: packL len lastB r) (packL len lastB r) := rfl
def RowPack (x : Row) (len : Int) : Row :=
 if (decide (1 ≤ len) && RowOk x) = true then (x.1, (x.2.1, (packL len (blkOf (IntKind.wrap .i64 (x.2.1 - 1)) len) x.2.2.1, ()))) else x
namespace spec_RowPack
abbrev S5 : Type := zt30
abbrev O5 : Type := zt13
def pre5 : S5 → Bool := fun (x1, x2, x3, _, _, _, _, _, _, _, x11, _) => decide (1 ≤ x1) && (small x3.2.2.1 && (decide (0 ≤ x2) && (decide (x2 ≤ (x3.2.2.1.length : Int)) && decide ((x11.length : Int) ≤ x2))))
def mu5 : S5 → Nat := fun (_, x2, x3, _) => x3.2.2.1.length - x2.toNat
def Q5 (s : S5) (o : O5) : Prop := match s, o with
 | (x1, x2, x3, _, _, _, _, x8, x9, _, x11, _), (_, _, _, _, y5, y6, _, y8, _) => y5 = x8 ∧ y6 = x9 ∧ y8 = x11 ++ packL x1 (blkOf (IntKind.wrap .i64 (x3.2.1 - 1)) x1) (x3.2.2.1.drop x2.toNat)
noncomputable def raw5 (x1 : Int) (x2 : Int) (x3 : Row) (x4 : Int) (x5 : Int) (x6 : Unit) (x7 : (List Item)) (x8 : Int) (x9 : Int) (x10 : Unit) (x11 : (List Item)) : Option (zt30 ⊕ zt13) :=
 if (decide (x2 < ((List.length x3.2.2.1 : Nat) : Int))) = true then
 if (decide ((0 : Int) ≤ x2)) = true then
 if (decide (x2 < ((List.length x3.2.2.1 : Nat) : Int))) = true then
 if ((List.getD x3.2.2.1 (Int.toNat x2) zd2).2.1 == ([] : List UInt8)) = true then
 if (decide (List.length x11 + List.length ((List.getD x3.2.2.1 (Int.toNat x2) zd2) :: ([] : List Item)) ≤ lim)) = true then
 some (.inl (x1, ((IntKind.wrap .i64 (x2 + (1 : Int))), (x3, (x4, (x5, (x6, (x7, (x8, (x9, (x10, ((List.append x11 ((List.getD x3.2.2.1 (Int.toNat x2) zd2) :: ([] : List Item))), ()))))))))))))
 else
 none
 else
 if (spec_l3Behind.pre x3 x2) = true then
 letB (behind x3 x2) fun v1 =>
 if (!v1) = true then
 if (decide (List.length x11 + List.length ((List.getD x3.2.2.1 (Int.toNat x2) zd2) :: ([] : List Item)) ≤ lim)) = true then
 some (.inl (x1, ((IntKind.wrap .i64 (x2 + (1 : Int))), (x3, (x4, (x5, (x6, (x7, (x8, (x9, (x10, ((List.append x11 ((List.getD x3.2.2.1 (Int.toNat x2) zd2) :: ([] : List Item))), ()))))))))))))
 else
 none
 else
 if (!(decide (x1 = (0 : Int)))) = true then
 if (!(decide (x1 = (0 : Int)))) = true then
 if (decide ((IntKind.wrap .i64 (Int.tdiv (List.getD x3.2.2.1 (Int.toNat x2) zd2).1 x1)) = (IntKind.wrap .i64 (Int.tdiv (IntKind.wrap .i64 (x3.2.1 - (1 : Int))) x1)))) = true then
 if (decide (List.length x11 + List.length ((List.getD x3.2.2.1 (Int.toNat x2) zd2) :: ([] : List Item)) ≤ lim)) = true then
 some (.inl (x1, ((IntKind.wrap .i64 (x2 + (1 : Int))), (x3, (x4, (x5, (x6, (x7, (x8, (x9, (x10, ((List.append x11 ((List.getD x3.2.2.1 (Int.toNat x2) zd2) :: ([] : List Item))), ()))))))))))))
 else
 none
 else
 some (.inl (x1, ((IntKind.wrap .i64 (x2 + (1 : Int))), (x3, (x4, (x5, (x6, (x7, (x8, (x9, (x10, (x11, ()))))))))))))
 else
 none
 else
 none
 else
 none
 else
 none
 else
 none
 else
 some (.inr (x4, (x5, (x6, (x7, (x8, (x9, (x10, (x11, ())))))))))
theorem wp5 : ∀ s, pre5 s = true → Wp ((fun (x : S5) => raw5 x.1 x.2.1 x.2.2.1 x.2.2.2.1 x.2.2.2.2.1 x.2.2.2.2.2.1 x.2.2.2.2.2.2.1 x.2.2.2.2.2.2.2.1 x.2.2.2.2.2.2.2.2.1 x.2.2.2.2.2.2.2.2.2.1 x.2.2.2.2.2.2.2.2.2.2.1) s) (Step pre5 mu5 Q5 s) := by
 rintro ⟨x1, x2, x3, x4, x5, ⟨⟩, x7, x8, x9, ⟨⟩, x11, ⟨⟩⟩ hp
 simp only [pre5, Bool.and_eq_true, decide_eq_true_eq] at hp
 obtain ⟨h0, hs, h1, h2, h3⟩ := hp
 have hs' := small_iff.1 hs
 show Wp (raw5 x1 x2 x3 x4 x5 () x7 x8 x9 () x11) _
 unfold raw5
 by_cases hlt : x2 < (x3.2.2.1.length : Int)
 · have hn : x2.toNat < x3.2.2.1.length := by omega
   have e1 := List.drop_eq_getElem_cons hn
   have bh : behind x3 x2 = (x3.2.2.1.drop (x2.toNat + 1)).any fun y => y.2.1 == x3.2.2.1[x2.toNat].2.1 := by unfold behind; rw [getD_get hn]
   rw [getD_get hn, w64 (n := x2 + 1) (by omega) (by omega)]
   have hz : (!decide (x1 = 0)) = true := by simp only [Bool.not_eq_true', decide_eq_false_iff_not]; omega
   have hl : decide (x11.length + (x3.2.2.1[x2.toNat] :: ([] : List Item)).length ≤ lim) = true := by
    simp only [decide_eq_true_eq, List.length_cons, List.length_nil, lim]; omega
   have nx : ∀ y : List Item, y.length ≤ 1 → packL x1 (blkOf (IntKind.wrap .i64 (x3.2.1 - 1)) x1) (x3.2.2.1.drop x2.toNat) = y ++ packL x1 (blkOf (IntKind.wrap .i64 (x3.2.1 - 1)) x1) (x3.2.2.1.drop (x2.toNat + 1)) →
    Step pre5 mu5 Q5 (x1, x2, x3, x4, x5, (), x7, x8, x9, (), x11, ()) (.inl (x1, ((x2 + 1), (x3, (x4, (x5, ((), (x7, (x8, (x9, ((), (x11 ++ y, ())))))))))))) := by
    intro y hy he
    refine ⟨?_, by simp only [mu5]; omega, ?_⟩
    · simp only [pre5, Bool.and_eq_true, decide_eq_true_eq, List.length_append]; exact ⟨h0, hs, by omega, by omega, by omega⟩
    · rintro ⟨_, _, _, _, y5, y6, ⟨⟩, y8, ⟨⟩⟩ ⟨q1, q2, q3⟩
      refine ⟨q1, q2, q3.trans ?_⟩
      rw [he, show (x2 + 1).toNat = x2.toNat + 1 by omega, List.append_assoc]
   have nx1 : (x3.2.2.1[x2.toNat].2.1 == ([] : List UInt8) || (!behind x3 x2 || decide (blkOf x3.2.2.1[x2.toNat].1 x1 = blkOf (IntKind.wrap .i64 (x3.2.1 - 1)) x1))) = true →
    Step pre5 mu5 Q5 (x1, x2, x3, x4, x5, (), x7, x8, x9, (), x11, ()) (.inl (x1, ((x2 + 1), (x3, (x4, (x5, ((), (x7, (x8, (x9, ((), (List.append x11 (x3.2.2.1[x2.toNat] :: ([] : List Item)), ())))))))))))) := fun h =>
    nx [x3.2.2.1[x2.toNat]] (by simp) (by rw [bh] at h; rw [e1, packL_cons, h]; rfl)
   have nx0 : (x3.2.2.1[x2.toNat].2.1 == ([] : List UInt8) || (!behind x3 x2 || decide (blkOf x3.2.2.1[x2.toNat].1 x1 = blkOf (IntKind.wrap .i64 (x3.2.1 - 1)) x1))) = false →
    Step pre5 mu5 Q5 (x1, x2, x3, x4, x5, (), x7, x8, x9, (), x11, ()) (.inl (x1, ((x2 + 1), (x3, (x4, (x5, ((), (x7, (x8, (x9, ((), (x11, ())))))))))))) := fun h => by
    have := nx [] (by simp) (by rw [bh] at h; rw [e1, packL_cons, h]; rfl)
    rwa [List.append_nil] at this
   refine W_if (decide_eq_true hlt) (W_if (decide_eq_true h1) (W_if (decide_eq_true hlt) (W_ite (fun c => ?_) fun c => ?_)))
   · exact W_if hl (W_some (nx1 (by rw [c]; rfl)))
   · have c : (x3.2.2.1[x2.toNat].2.1 == ([] : List UInt8)) = false := by cases h : (x3.2.2.1[x2.toNat].2.1 == ([] : List UInt8)) <;> simp_all
     refine W_if (show spec_l3Behind.pre x3 x2 = true by simp only [spec_l3Behind.pre, Bool.and_eq_true, decide_eq_true_eq]; exact ⟨hs, h1, hlt⟩) (W_let (W_ite (fun d => ?_) fun d => ?_))
     · exact W_if hl (W_some (nx1 (by rw [c, d]; rfl)))
     · have d : behind x3 x2 = true := by cases h : behind x3 x2 <;> simp_all
       refine W_if hz (W_if hz (W_ite (fun f => ?_) fun f => ?_))
       · exact W_if hl (W_some (nx1 (by rw [c, d]; exact f)))
       · rw [decide_eq_true_eq] at f
         have f : ¬ blkOf x3.2.2.1[x2.toNat].1 x1 = blkOf (IntKind.wrap .i64 (x3.2.1 - 1)) x1 := f
         exact W_some (nx0 (by rw [c, d, decide_eq_false f]; rfl))
 · refine W_else (by rw [decide_eq_true_eq]; exact hlt) (W_some ⟨rfl, rfl, ?_⟩)
   rw [List.drop_eq_nil_of_le (by omega)]
   exact (List.append_nil _).symm
noncomputable def fn5 : S5 → O5 := runF (fun (x : S5) => raw5 x.1 x.2.1 x.2.2.1 x.2.2.2.1 x.2.2.2.2.1 x.2.2.2.2.2.1 x.2.2.2.2.2.2.1 x.2.2.2.2.2.2.2.1 x.2.2.2.2.2.2.2.2.1 x.2.2.2.2.2.2.2.2.2.1 x.2.2.2.2.2.2.2.2.2.2.1) mu5
theorem ok5 (x1 x2 : Int) (x3 : Row) (x4 x5 : Int) (x6 : Unit) (x7 : List Item) (x8 x9 : Int) (x10 : Unit) (x11 : List Item) (hp : pre5 (x1, (x2, (x3, (x4, (x5, (x6, (x7, (x8, (x9, (x10, (x11, ()))))))))))) = true) :
 Rounds pre5 mu5 fn5 (x1, (x2, (x3, (x4, (x5, (x6, (x7, (x8, (x9, (x10, (x11, ()))))))))))) (raw5 x1 x2 x3 x4 x5 x6 x7 x8 x9 x10 x11) := runF_ok wp5 hp
def pre (x : Row) (_ : Int) : Bool := small x.2.2.1
abbrev wf (x0 : Row) (x1 : Int) : Prop := wfA [(.val zk19 .f), (.val (.int .i64) .f)] (x0, (x1, ()))
noncomputable def raw (x0 : Row) (x1 : Int) : Option (Unit × (Row × Unit)) :=
 if (decide (x1 < (1 : Int))) = true then
 if (spec_l3Copy.pre x0) = true then
 letB (spec_l3Copy x0) fun v1 =>
 some ((), (v1, ()))
 else
 none
 else
 if (spec_RowOk.pre x0) = true then
 letB (RowOk x0) fun v2 =>
 if (!v2) = true then
 if (spec_l3Copy.pre x0) = true then
 letB (spec_l3Copy x0) fun v3 =>
 some ((), (v3, ()))
 else
 none
 else
 if (spec_RowPack.pre5 (x1, ((0 : Int), (x0, ((0 : Int), ((0 : Int), ((), (([] : List Item), (x0.1, (x0.2.1, ((), (([] : List Item), ())))))))))))) = true then
 letB (spec_RowPack.fn5 (x1, ((0 : Int), (x0, ((0 : Int), ((0 : Int), ((), (([] : List Item), (x0.1, (x0.2.1, ((), (([] : List Item), ())))))))))))) fun v4 =>
 some ((), ((v4.2.2.2.2.1, (v4.2.2.2.2.2.1, (v4.2.2.2.2.2.2.2.1, v4.2.2.2.2.2.2.1))), ()))
 else
 none
 else
 none
theorem eq (x0 : Row) (x1 : Int) (_ : wf x0 x1) (hp : pre x0 x1 = true) : raw x0 x1 = some ((), (RowPack x0 x1, ())) := by
 have hs : small x0.2.2.1 = true := hp
 refine W_eq ?_
 unfold raw
 have no : (decide (1 ≤ x1) && RowOk x0) = false → RowPack x0 x1 = x0 := fun h => if_neg (by rw [h]; exact Bool.false_ne_true)
 by_cases c1 : x1 < 1
 · exact W_if (decide_eq_true c1) (W_if (show spec_l3Copy.pre x0 = true from hs) (W_let (W_some (no (by rw [decide_eq_false (p := 1 ≤ x1) (by omega)]; rfl)).symm)))
 refine W_else (by rw [decide_eq_true_eq]; exact c1) (W_if (show spec_RowOk.pre x0 = true from hs) (W_let ?_))
 cases c3 : RowOk x0
 · exact W_if rfl (W_if (show spec_l3Copy.pre x0 = true from hs) (W_let (W_some (no (by rw [c3, Bool.and_false])).symm)))
 have hq : pre5 (x1, ((0 : Int), (x0, ((0 : Int), ((0 : Int), ((), (([] : List Item), (x0.1, (x0.2.1, ((), (([] : List Item), ()))))))))))) = true := by
  simp only [pre5, Bool.and_eq_true, decide_eq_true_eq, List.length_nil]; exact ⟨by omega, hs, by omega, by omega, by omega⟩
 rw [show RowPack x0 x1 = _ from if_pos (by rw [c3, decide_eq_true (p := 1 ≤ x1) (by omega)]; rfl)]
 refine W_else (by decide) (W_if hq (W_fact (runF_q wp5 hq : Q5 _ (fn5 _)) ?_))
 rintro ⟨_, _, _, _, y5, y6, ⟨⟩, y8, ⟨⟩⟩ ⟨q1, q2, q3⟩
 refine W_some ?_
 show (y5, (y6, (y8, ()))) = _
 rw [q1, q2, q3]; rfl
end spec_RowPack
abbrev spec_RowPack := RowPack
theorem getD_mem {α : Type} {xs : List α} {j : Nat} (h : j < xs.length) (d : α) : xs.getD j d ∈ xs := by
 rw [getD_get h]; exact List.getElem_mem _
theorem mem_getD {α : Type} {xs : List α} {x : α} (h : x ∈ xs) (d : α) : ∃ j, j < xs.length ∧ xs.getD j d = x := by
 obtain ⟨j, hj, rfl⟩ := List.mem_iff_getElem.1 h
 exact ⟨j, hj, getD_get hj⟩
theorem pw_of_adj {α : Type} {R : α → α → Prop} (tr : ∀ a b c, R a b → R b c → R a c) (d : α) : (xs : List α) → (∀ j, 0 < j → j < xs.length → R (xs.getD (j - 1) d) (xs.getD j d)) → xs.Pairwise R
 | [], _ => List.Pairwise.nil
 | [a], _ => List.pairwise_singleton _ _
 | a :: b :: r, h => by
  have ih := pw_of_adj tr d (b :: r) fun j h0 h1 => by
   have := h (j + 1) (by omega) (by simpa using h1)
   match j, h0 with
   | j + 1, _ => exact this
  have hab : R a b := h 1 (by omega) (by simp)
  refine List.pairwise_cons.2 ⟨fun c hc => ?_, ih⟩
  rcases List.mem_cons.1 hc with rfl | hc
  · exact hab
  · exact tr _ _ _ hab ((List.pairwise_cons.1 ih).1 c hc)
theorem adj_of_pw {α : Type} {R : α → α → Prop} {d : α} {xs : List α} (h : xs.Pairwise R) {j : Nat} (h0 : 0 < j) (h1 : j < xs.length) : R (xs.getD (j - 1) d) (xs.getD j d) := by
 rw [getD_get h1, getD_get (show j - 1 < xs.length by omega)]
 exact List.pairwise_iff_getElem.1 h _ _ _ _ (by omega)
theorem rowOk_iff {x : Row} : RowOk x = true ↔ (0 ≤ x.1 ∧ x.1 ≤ x.2.1 ∧ x.2.1 ≤ 100000 ∧ x.2.2.1.length ≤ 80) ∧ (∀ it ∈ x.2.2.1, x.1 ≤ it.1 ∧ it.1 < x.2.1 ∧ itOk it = true) ∧ x.2.2.1.Pairwise (fun a b => a.1 < b.1) := by
 constructor
 · intro h
   simp only [RowOk, Bool.and_eq_true, decide_eq_true_eq, impl_within, allN_0, rowAt, Bool.or_eq_true] at h
   obtain ⟨⟨h1, h2⟩, h3, h4, h5⟩ := h
   rw [w64 (n := x.2.1 - 1) (by omega) (by omega)] at h5
   refine ⟨⟨h1, h2, h3, by omega⟩, fun it hit => ?_, pw_of_adj (R := fun (a b : Item) => a.1 < b.1) (fun _ _ _ => Int.lt_trans) zd2 _ fun j h0 h1 => ?_⟩
   · obtain ⟨j, hj, rfl⟩ := mem_getD hit zd2
     have := h5 j hj
     exact ⟨this.1.1, by have := this.1.2; omega, this.2.2⟩
   · have := (h5 j h1).2.1
     rcases this with h | h
     · omega
     · exact h
 · rintro ⟨⟨h1, h2, h3, h4⟩, h5, h6⟩
   simp only [RowOk, Bool.and_eq_true, decide_eq_true_eq, impl_within, allN_0, rowAt, Bool.or_eq_true]
   rw [w64 (n := x.2.1 - 1) (by omega) (by omega)]
   refine ⟨⟨h1, h2⟩, h3, by omega, fun j hj => ?_⟩
   have := h5 _ (getD_mem hj zd2)
   refine ⟨⟨this.1, by have := this.2.1; omega⟩, ?_, this.2.2⟩
   rcases Nat.eq_zero_or_pos j with h | h
   · exact .inl h
   · exact .inr (adj_of_pw h6 h hj)
theorem packL_sub {len lastB : Int} : (l : List Item) → (packL len lastB l).Sublist l
 | [] => List.Sublist.slnil
 | it :: r => by
  rw [packL_cons]
  cases (it.2.1 == ([] : List UInt8) || (!(r.any fun y => y.2.1 == it.2.1) || decide (blkOf it.1 len = lastB)))
  · exact (packL_sub r).cons _
  · exact (packL_sub r).cons_cons _
theorem rowPack_ok {x : Row} {len : Int} (h : RowOk x = true) : RowOk (RowPack x len) = true ∧ (RowPack x len).2.1 = x.2.1 := by
 unfold RowPack
 split
 · obtain ⟨⟨h1, h2, h3, h4⟩, h5, h6⟩ := rowOk_iff.1 h
   have hs := packL_sub (len := len) (lastB := blkOf (IntKind.wrap .i64 (x.2.1 - 1)) len) x.2.2.1
   exact ⟨rowOk_iff.2 ⟨⟨h1, h2, h3, Nat.le_trans hs.length_le h4⟩, fun it hit => h5 it (hs.mem hit), h6.sublist hs⟩, rfl⟩
 · exact ⟨h, rfl⟩
theorem blkOf_eq {n len : Int} (h0 : 0 ≤ n) (h1 : n ≤ 100000) (h2 : 1 ≤ len) : blkOf n len = n / len := by
 unfold blkOf
 rw [Int.tdiv_eq_ediv_of_nonneg h0]
 have a := Int.ediv_nonneg h0 (show 0 ≤ len by omega)
 have b := Int.ediv_le_self len h0
 rw [w64 (by omega) (by omega)]
theorem ediv_next {a n len : Int} (hl : 1 ≤ len) (h1 : a / len < n / len) : (a / len + 1) * len ≤ n := by
 have h2 : (a / len + 1) * len ≤ n / len * len := Int.mul_le_mul_of_nonneg_right (by omega) (by omega)
 have h3 : n / len * len ≤ n := Int.ediv_mul_le n (by omega)
 omega
theorem dropWhile_sub {α : Type} {p : α → Bool} (l : List α) : (l.dropWhile p).Sublist l := by
 rw [← dropWhile_drop]; exact List.drop_sublist _ _
theorem dropWhile_head {α : Type} {p : α → Bool} : (l : List α) → (a : α) → (r : List α) → l.dropWhile p = a :: r → p a = false
 | b :: l, a, r, h => by
  cases hb : p b
  · rw [List.dropWhile_cons, if_neg (by rw [hb]; decide)] at h
    cases h; exact hb
  · rw [List.dropWhile_cons, if_pos hb] at h
    exact dropWhile_head l a r h
 | [], _, _, h => by cases h
theorem trim_rest {len : Int} {it : Item} {r : List Item} (hl : 1 ≤ len) (hb : ∀ y ∈ it :: r, 0 ≤ y.1 ∧ y.1 ≤ 100000) (hp : (it :: r).Pairwise (fun a b => a.1 < b.1)) :
 ∀ y ∈ (it :: r).dropWhile (fun y => decide (blkOf y.1 len = blkOf it.1 len)), (it.1 / len + 1) * len ≤ y.1 := by
 intro y hy
 have hs := dropWhile_sub (p := fun y : Item => decide (blkOf y.1 len = blkOf it.1 len)) (it :: r)
 cases hd : (it :: r).dropWhile (fun y => decide (blkOf y.1 len = blkOf it.1 len)) with
 | nil => rw [hd] at hy; cases hy
 | cons a q =>
  have ha := dropWhile_head _ _ _ hd
  rw [hd] at hy hs
  have ham : a ∈ it :: r := hs.mem List.mem_cons_self
  have hpq := hp.sublist hs
  have h1 := hb a ham
  have h0 := hb it List.mem_cons_self
  simp only [decide_eq_false_iff_not] at ha
  rw [blkOf_eq h1.1 h1.2 hl, blkOf_eq h0.1 h0.2 hl] at ha
  have hle : it.1 ≤ a.1 := by
   rcases List.mem_cons.1 ham with rfl | h
   · omega
   · exact Int.le_of_lt ((List.pairwise_cons.1 hp).1 a h)
  have hlt : it.1 / len < a.1 / len := by
   have := Int.ediv_le_ediv (show 0 < len by omega) hle
   omega
  have := ediv_next hl hlt
  rcases List.mem_cons.1 hy with rfl | h
  · exact this
  · have := (List.pairwise_cons.1 hpq).1 y h
    omega
theorem trimL_ok {len keep next : Int} (hl : 1 ≤ len) (hl8 : len ≤ 8) (hn : next ≤ 100000) : (n : Nat) → (st : Int) → (l : List Item) → 0 ≤ st → st ≤ next → (∀ y ∈ l, st ≤ y.1 ∧ y.1 < next) → l.Pairwise (fun a b => a.1 < b.1) →
 (0 ≤ (trimL len keep (blkOf (IntKind.wrap .i64 (next - 1)) len) n st l).1 ∧ (trimL len keep (blkOf (IntKind.wrap .i64 (next - 1)) len) n st l).1 ≤ next) ∧ (∀ y ∈ (trimL len keep (blkOf (IntKind.wrap .i64 (next - 1)) len) n st l).2, (trimL len keep (blkOf (IntKind.wrap .i64 (next - 1)) len) n st l).1 ≤ y.1) ∧ (trimL len keep (blkOf (IntKind.wrap .i64 (next - 1)) len) n st l).2.Sublist l
 | 0, st, l, h0, h1, h2, h3 => by simp only [trimL]; exact ⟨⟨h0, h1⟩, fun y hy => (h2 y hy).1, List.Sublist.refl _⟩
 | n + 1, st, [], h0, h1, h2, h3 => by simp only [trimL]; exact ⟨⟨h0, h1⟩, fun y hy => (h2 y hy).1, List.Sublist.refl _⟩
 | n + 1, st, it :: r, h0, h1, h2, h3 => by
  simp only [trimL]
  split
  · rename_i hc
    have hit := h2 it List.mem_cons_self
    have hb : ∀ y ∈ it :: r, 0 ≤ y.1 ∧ y.1 ≤ 100000 := fun y hy => by have := h2 y hy; omega
    have e1 : blkOf it.1 len = it.1 / len := blkOf_eq (by omega) (by omega) hl
    have hw : IntKind.wrap .i64 (next - 1) = next - 1 := w64 (by omega) (by omega)
    have e2 : blkOf (IntKind.wrap .i64 (next - 1)) len = (next - 1) / len := by rw [hw]; exact blkOf_eq (by omega) (by omega) hl
    have hne := hc.2
    rw [e1, e2] at hne
    have hlt : it.1 / len < (next - 1) / len := by
     have := Int.ediv_le_ediv (show 0 < len by omega) (show it.1 ≤ next - 1 by omega)
     omega
    have hnx := ediv_next hl hlt
    have q0 := Int.ediv_nonneg (show 0 ≤ it.1 by omega) (show 0 ≤ len by omega)
    have q1 := Int.ediv_le_self len (show 0 ≤ it.1 by omega)
    have q2 : 0 ≤ (it.1 / len + 1) * len := Int.mul_nonneg (by omega) (by omega)
    have ew : IntKind.wrap .i64 (IntKind.wrap .i64 (blkOf it.1 len + 1) * len) = (it.1 / len + 1) * len := by
     rw [e1, w64 (n := it.1 / len + 1) (by omega) (by omega), w64 (by omega) (by omega)]
    rw [ew]
    have hs := dropWhile_sub (p := fun y : Item => decide (blkOf y.1 len = blkOf it.1 len)) (it :: r)
    have hr := trim_rest hl hb h3
    have ih := trimL_ok (keep := keep) hl hl8 hn n ((it.1 / len + 1) * len) _ q2 (by omega) (fun y hy => ⟨hr y hy, (h2 y (hs.mem hy)).2⟩) (h3.sublist hs)
    exact ⟨ih.1, ih.2.1, ih.2.2.trans hs⟩
  · exact ⟨⟨h0, h1⟩, fun y hy => (h2 y hy).1, List.Sublist.refl _⟩
theorem rowTrim_ok {x : Row} {len keep : Int} (h : RowOk x = true) (hl8 : len ≤ 8) : RowOk (RowTrim x len keep) = true ∧ (RowTrim x len keep).2.1 = x.2.1 := by
 unfold RowTrim
 split
 · rename_i hc
   simp only [Bool.and_eq_true, decide_eq_true_eq] at hc
   obtain ⟨⟨h1, h2, h3, h4⟩, h5, h6⟩ := rowOk_iff.1 h
   have ht := trimL_ok (keep := keep) hc.1 hl8 h3 x.2.2.1.length x.1 x.2.2.1 h1 h2 (fun y hy => ⟨(h5 y hy).1, (h5 y hy).2.1⟩) h6
   refine ⟨rowOk_iff.2 ⟨⟨ht.1.1, ht.1.2, h3, Nat.le_trans ht.2.2.length_le h4⟩, fun it hit => ⟨ht.2.1 it hit, (h5 it (ht.2.2.mem hit)).2⟩, h6.sublist ht.2.2⟩, rfl⟩
 · exact ⟨h, rfl⟩
theorem groupOk_iff {g : Group} {rows : Int} : GroupOk g rows = true ↔ (g.2.2.1.length = g.2.1.length ∧ (g.2.2.2.1.length : Int) = rows ∧ 0 ≤ g.1 ∧ g.1 ≤ 100000) ∧ (∀ m ∈ g.2.1, 0 ≤ m ∧ m ≤ 3) ∧ g.2.1.Pairwise (· < ·) ∧ (∀ b ∈ g.2.2.1, 0 ≤ b ∧ b ≤ 100000) ∧ (∀ o ∈ g.2.2.2.1, 0 ≤ o ∧ o ≤ 100000) := by
 constructor
 · intro h
   simp only [GroupOk, Bool.and_eq_true, decide_eq_true_eq, impl_within, allN_0, memAt, Bool.or_eq_true, impl_allWithin, List.all_eq_true, isClient, impl_isClient] at h
   obtain ⟨h1, h2, ⟨h3, h4⟩, h5, h6, h7⟩ := h
   refine ⟨⟨by omega, h2, h3, h4⟩, fun m hm => ?_, pw_of_adj (R := fun (a b : Int) => a < b) (fun _ _ _ => Int.lt_trans) (0 : Int) _ fun j j0 j1 => ?_, h6, h7⟩
   · obtain ⟨j, hj, rfl⟩ := mem_getD hm (0 : Int)
     exact (h5 j hj).1
   · rcases (h5 j j1).2 with h | h
     · omega
     · exact h
 · rintro ⟨⟨h1, h2, h3, h4⟩, h5, h6, h7, h8⟩
   simp only [GroupOk, Bool.and_eq_true, decide_eq_true_eq, impl_within, allN_0, memAt, Bool.or_eq_true, impl_allWithin, List.all_eq_true, isClient, impl_isClient]
   refine ⟨by omega, h2, ⟨h3, h4⟩, fun j hj => ⟨h5 _ (getD_mem hj _), ?_⟩, h7, h8⟩
   rcases Nat.eq_zero_or_pos j with h | h
   · exact .inl h
   · exact .inr (adj_of_pw h6 h hj)
theorem asc_len : (l : List Int) → (a : Int) → (∀ m ∈ l, a ≤ m ∧ m ≤ 3) → l.Pairwise (· < ·) → l.length ≤ (4 - a).toNat
 | [], _, _, _ => Nat.zero_le _
 | m :: r, a, h, hp => by
  have h1 := h m List.mem_cons_self
  have := asc_len r (m + 1) (fun x hx => by have := (List.pairwise_cons.1 hp).1 x hx; have := h x (List.mem_cons_of_mem _ hx); omega) (List.pairwise_cons.1 hp).2
  simp only [List.length_cons]; omega
theorem groupOk_S {g : Group} {rows : Int} (h : GroupOk g rows = true) (hr : rows ≤ 4) : groupS g = true ∧ g.2.1.length ≤ 4 := by
 obtain ⟨⟨h1, h2, h3, h4⟩, h5, h6, h7, h8⟩ := groupOk_iff.1 h
 have := asc_len g.2.1 0 h5 h6
 rw [groupS_iff]
 omega
theorem upG_ok {n : Int} (h0 : 0 ≤ n) (h1 : n ≤ 100000) : 0 ≤ upG n ∧ upG n ≤ 100000 := by
 unfold upG; split <;> omega
theorem tickM_sub {t : Int} : (ms bs : List Int) → (tickM t ms bs).Sublist ms
 | [], _ => List.nil_sublist _
 | _ :: _, [] => List.nil_sublist _
 | m :: ms, b :: bs => by
  simp only [tickM]
  split
  · exact (tickM_sub ms bs).cons _
  · exact (tickM_sub ms bs).cons_cons _
theorem tickB_sub {t : Int} : (bs : List Int) → (tickB t bs).Sublist bs
 | [] => List.Sublist.slnil
 | b :: bs => by
  simp only [tickB]
  split
  · exact (tickB_sub bs).cons _
  · exact (tickB_sub bs).cons_cons _
theorem tick_len {t : Int} : (ms bs : List Int) → bs.length = ms.length → (tickB t bs).length = (tickM t ms bs).length
 | [], [], _ => rfl
 | m :: ms, b :: bs, h => by
  simp only [tickM, tickB]
  have := tick_len (t := t) ms bs (by simpa using h)
  split
  · exact this
  · simp only [List.length_cons, this]
 | [], _ :: _, h => by cases h
 | _ :: _, [], h => by cases h
theorem groupTick_ok {g : Group} {rows t : Int} (h : GroupOk g rows = true) : GroupOk (GroupTick g t) rows = true := by
 obtain ⟨⟨h1, h2, h3, h4⟩, h5, h6, h7, h8⟩ := groupOk_iff.1 h
 have s1 := tickM_sub (t := t) g.2.1 g.2.2.1
 have s2 := tickB_sub (t := t) g.2.2.1
 have hu := upG_ok h3 h4
 refine groupOk_iff.2 ⟨⟨tick_len _ _ h1, h2, ?_, ?_⟩, fun m hm => h5 m (s1.mem hm), h6.sublist s1, fun b hb => h7 b (s2.mem hb), h8⟩
 · show 0 ≤ cond (tickG t g.2.2.1) (upG g.1) g.1
   cases tickG t g.2.2.1
   · exact h3
   · exact hu.1
 · show cond (tickG t g.2.2.1) (upG g.1) g.1 ≤ 100000
   cases tickG t g.2.2.1
   · exact h4
   · exact hu.2
theorem findAt_none {who : Int} : (l : List Int) → (i : Int) → 0 ≤ i → ¬ 0 ≤ findAt who l i → who ∉ l
 | [], _, _, _ => List.not_mem_nil
 | m :: r, i, h0, h => by
  simp only [findAt] at h
  split at h
  · omega
  · rename_i hm
    rw [List.mem_cons]
    rintro (e | e)
    · exact hm e.symm
    · exact findAt_none r (i + 1) (by omega) h e
theorem insAt_split {who : Int} : (ms bs : List Int) → bs.length = ms.length → ms.Pairwise (· < ·) → who ∉ ms → (∀ m ∈ ms.take (insAt who ms bs), m < who) ∧ (∀ m ∈ ms.drop (insAt who ms bs), who < m)
 | [], bs, _, _, _ => by simp
 | m :: ms, b :: bs, h, hp, hn => by
  simp only [insAt]
  have hp' := List.pairwise_cons.1 hp
  rw [List.mem_cons, not_or] at hn
  split
  · rename_i hm
    have ih := insAt_split ms bs (by simpa using h) hp'.2 hn.2
    simp only [List.take_succ_cons, List.drop_succ_cons]
    exact ⟨fun x hx => by rcases List.mem_cons.1 hx with rfl | hx; exact hm; exact ih.1 x hx, ih.2⟩
  · rename_i hm
    simp only [List.take_zero, List.drop_zero]
    refine ⟨fun x hx => (by cases hx), fun x hx => ?_⟩
    have h1 : who < m := by have := hn.1; omega
    rcases List.mem_cons.1 hx with rfl | hx
    · exact h1
    · exact Int.lt_trans h1 (hp'.1 x hx)
 | _ :: _, [], h, _, _ => by cases h
theorem insL_mem {k : Nat} {x y : Int} {l : List Int} (h : y ∈ insL k x l) : y = x ∨ y ∈ l := by
 unfold insL at h
 rcases List.mem_append.1 h with h | h
 · exact .inr (List.mem_of_mem_take h)
 · rcases List.mem_cons.1 h with h | h
   · exact .inl h
   · exact .inr (List.mem_of_mem_drop h)
theorem insL_len {k : Nat} {x : Int} {l : List Int} (h : k ≤ l.length) : (insL k x l).length = l.length + 1 := by
 unfold insL
 rw [List.length_append, List.length_cons, List.length_take, List.length_drop]; omega
theorem mem_modify {α : Type} {l : List α} {i : Nat} {v y : α} (h : y ∈ l.modify i (fun _ => v)) : y = v ∨ y ∈ l := by
 rw [modify_const] at h
 rcases List.mem_or_eq_of_mem_set h with h | h
 · exact .inr h
 · exact .inl h
theorem groupJoin_ok {g : Group} {rows who t : Int} (h : GroupOk g rows = true) (h0 : 0 ≤ t) (h1 : t ≤ 100000) : GroupOk (GroupJoin g who t) rows = true := by
 obtain ⟨⟨g1, g2, g3, g4⟩, g5, g6, g7, g8⟩ := groupOk_iff.1 h
 unfold GroupJoin
 split
 · rename_i hw
   have hw := within_hi hw
   split
   · split
     · refine groupOk_iff.2 ⟨⟨by rw [List.length_modify]; exact g1, g2, g3, g4⟩, g5, g6, fun b hb => ?_, g8⟩
       rcases mem_modify hb with rfl | hb
       · exact ⟨h0, h1⟩
       · exact g7 b hb
     · exact h
   · rename_i hf
     have hn := findAt_none _ _ (Int.le_refl 0) (show ¬ 0 ≤ findAt who g.2.1 0 from hf)
     have hs := insAt_split g.2.1 g.2.2.1 g1 g6 hn
     have hl := insAt_le (who := who) g.2.1 g.2.2.1
     have hu := upG_ok g3 g4
     refine groupOk_iff.2 ⟨⟨?_, g2, hu.1, hu.2⟩, fun m hm => ?_, ?_, fun b hb => ?_, g8⟩
     · show (insL _ _ _).length = (insL _ _ _).length
       rw [insL_len hl.2, insL_len hl.1, g1]
     · rcases insL_mem hm with rfl | hm
       · exact hw
       · exact g5 m hm
     · show (insL _ _ _).Pairwise _
       unfold insL
       rw [List.pairwise_append]
       refine ⟨g6.sublist (List.take_sublist _ _), List.pairwise_cons.2 ⟨hs.2, g6.sublist (List.drop_sublist _ _)⟩, fun a ha b hb => ?_⟩
       have := hs.1 a ha
       rcases List.mem_cons.1 hb with rfl | hb
       · exact this
       · exact Int.lt_trans this (hs.2 b hb)
     · rcases insL_mem hb with rfl | hb
       · exact ⟨h0, h1⟩
       · exact g7 b hb
 · exact h
theorem groupLeave_ok {g : Group} {rows who : Int} (h : GroupOk g rows = true) : GroupOk (GroupLeave g who) rows = true := by
 obtain ⟨⟨g1, g2, g3, g4⟩, g5, g6, g7, g8⟩ := groupOk_iff.1 h
 unfold GroupLeave
 split
 · rename_i hf
   have hl := findAt_lt (who := who) g.2.1 0 (Int.le_refl _) hf.1
   have hu := upG_ok g3 g4
   have s1 := List.eraseIdx_sublist g.2.1 (atG g who).toNat
   have s2 := List.eraseIdx_sublist g.2.2.1 (atG g who).toNat
   refine groupOk_iff.2 ⟨⟨?_, g2, hu.1, hu.2⟩, fun m hm => g5 m (s1.mem hm), g6.sublist s1, fun b hb => g7 b (s2.mem hb), g8⟩
   show (g.2.2.1.eraseIdx _).length = (g.2.1.eraseIdx _).length
   rw [List.length_eraseIdx, List.length_eraseIdx, g1]
 · exact h
theorem groupMark_ok {g : Group} {rows who gen row off : Int} (h : GroupOk g rows = true) (h0 : 0 ≤ off) (h1 : off ≤ 100000) : GroupOk (GroupMark g who gen row off).1 rows = true := by
 obtain ⟨⟨g1, g2, g3, g4⟩, g5, g6, g7, g8⟩ := groupOk_iff.1 h
 unfold GroupMark
 split
 · refine groupOk_iff.2 ⟨⟨g1, by show ((g.2.2.2.1.modify _ _).length : Int) = rows; rw [List.length_modify]; exact g2, g3, g4⟩, g5, g6, g7, fun o ho => ?_⟩
   rcases mem_modify ho with rfl | ho
   · exact ⟨h0, h1⟩
   · exact g8 o ho
 · exact h
end Go.Aw.Pl
