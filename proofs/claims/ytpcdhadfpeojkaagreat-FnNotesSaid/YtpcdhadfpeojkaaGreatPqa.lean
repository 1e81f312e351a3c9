import Derived.Test.YtpcdhadfpeojkaaGreatAxM
namespace Go.Aw.Pl
open Go.IntKind (wrap)
open List (length)
open Go Go.Aw
set_option linter.unusedVariables false
set_option linter.unusedSimpArgs false
set_option maxHeartbeats 1000000
abbrev Mark := (Int × (Int × Unit))
abbrev Setup := (Int × (Int × Mark))
abbrev Disk := ((List Int) × (Int × Unit))
abbrev Item := (Int × ((List UInt8) × ((List UInt8) × Mark)))
abbrev Row := (Int × (Int × ((List Item) × Unit)))
abbrev Maker := (Int × (Int × (Int × (Int × ((List Mark) × Unit)))))
abbrev Answer := (Int × (Int × ((List UInt8) × ((List UInt8) × Unit))))
abbrev Cmd := (Int × (Int × (Int × (Int × Answer))))
abbrev Entry := (Int × (Cmd × Unit))
abbrev Group := (Int × ((List Int) × ((List Int) × ((List Int) × Unit))))
abbrev Note := (Int × (Int × (Int × (Int × ((List Entry) × ((List UInt8) × Unit))))))
abbrev Keep := ((List Row) × ((List Maker) × ((List Group) × (Int × ((List Int) × ((List Answer) × Unit))))))
abbrev zt1 : Type := ((List Row) × ((List Maker) × ((List Group) × (Int × ((List Int) × ((List Answer) × Unit))))))
abbrev zk4 : Ty := (.pair (.int .i64) (.pair (.int .i64) (.pair (.int .i64) (.pair (.int .i64) (.pair (.int .i64) (.pair (.int .i64) (.pair .str (.pair .str .unit))))))))
abbrev zd5 := ((0 : Int), ((0 : Int), ((0 : Int), ((0 : Int), (([] : List Mark), ())))))
abbrev zt6 : Type := (Unit × ((List Row) × ((List Maker) × ((List Group) × ((List Int) × ((List Answer) × (Int × (Unit × ((List Row) × ((List Maker) × ((List Group) × ((List Int) × ((List Answer) × Unit)))))))))))))
abbrev zd8 := ((0 : Int), (([] : List Int), (([] : List Int), (([] : List Int), ()))))
abbrev zd9 := ((0 : Int), ((0 : Int), (([] : List Item), ())))
abbrev zk10 : Ty := (.pair (.int .i64) (.pair (.int .i64) .unit))
abbrev zt11 : Type := ((List Int) × Mark)
abbrev zt12 : Type := ((List Int) × Unit)
abbrev zt15 : Type := (Int × (Int × (Unit × ((List Item) × (Int × (Int × (Unit × ((List Item) × Unit))))))))
abbrev zt17 : Type := (Group × (Int × (Unit × ((List Int) × ((List Int) × ((List Int) × (Int × (Unit × ((List Int) × ((List Int) × zt12))))))))))
abbrev zk18 : Ty := (.pair (.int .i64) (.pair (.int .i64) (.pair (.int .i64) (.pair (.int .i64) (.pair (.sl 0 (.pair (.int .i64) (.pair zk4 .unit))) (.pair .str .unit))))))
abbrev zk19 : Ty := (.pair (.int .i64) (.pair (.sl 0 (.int .i64)) (.pair (.sl 0 (.int .i64)) (.pair (.sl 0 (.int .i64)) .unit))))
abbrev zk20 : Ty := (.sl 0 (.int .u8))
abbrev zt21 : Type := (Int × (Unit × ((List Row) × ((List Maker) × ((List Group) × ((List Int) × ((List Answer) × ((List Answer) × (Int × (Unit × ((List Row) × ((List Maker) × ((List Group) × ((List Int) × ((List Answer) × Unit)))))))))))))))
abbrev zt22 : Type := (Int × (Unit × ((List Row) × ((List Maker) × ((List Group) × ((List Int) × ((List Answer) × (Int × (Unit × ((List Row) × ((List Maker) × ((List Group) × ((List Int) × ((List Answer) × (Answer × Unit)))))))))))))))
abbrev zk23 : Ty := (.pair (.int .i64) (.pair (.int .i64) (.pair (.sl 0 (.pair (.int .i64) (.pair .str (.pair .str zk10)))) .unit)))
abbrev zk25 : Ty := (.pair (.int .i64) (.pair (.int .i64) (.pair (.int .i64) (.pair (.int .i64) (.pair (.sl 0 zk10) .unit)))))
abbrev zk3 : Ty := (.pair (.sl 0 zk23) (.pair (.sl 0 zk25) (.pair (.sl 0 zk19) (.pair (.int .i64) (.pair (.sl 0 (.int .i64)) (.pair (.sl 0 (.pair (.int .i64) (.pair (.int .i64) (.pair .str (.pair .str .unit))))) .unit))))))
abbrev zk26 : Ty := (.pair zk20 (.pair (.int .i64) (.pair .bool .unit)))
abbrev zd27 := ((0 : Int), (([] : List UInt8), (([] : List UInt8), ())))
abbrev zd7 := ((0 : Int), zd27)
abbrev zd28 := ((0 : Int), ((0 : Int), ()))
abbrev zd2 := ((0 : Int), (([] : List UInt8), (([] : List UInt8), zd28)))
abbrev zd29 := ((0 : Int), (false, ()))
abbrev zd14 := ((), (((0 : Int), ((0 : Int), ((0 : Int), ((0 : Int), (([] : List Entry), (([] : List UInt8), ())))))), zd29))
abbrev zt30 : Type := (Unit × (Bool × Unit))
abbrev zt31 : Type := (Int × (Int × (Int × (Int × (Unit × ((List Mark) × Unit))))))
abbrev zk32 : Ty := (.pair (.int .i64) (.pair (.int .i64) zk10))
abbrev zt33 : Type := ((List UInt8) × Unit)
abbrev zk34 : Ty := (.pair zk20 zk10)
abbrev zd35 := ((0 : Int), ((0 : Int), ((0 : Int), zd7)))
abbrev zd24 := ((0 : Int), (((0 : Int), zd35), ()))
abbrev zt36 : Type := (Int × (Bool × Unit))
abbrev zt13 : Type := ((List Int) × zt36)
abbrev zt37 : Type := (Int × (zt1 × zt12))
abbrev zt38 : Type := (zt11 × Unit)
abbrev zt39 : Type := (Int × (Int × (Row × zt15)))
abbrev zt40 : Type := (Int × (Int × (Int × (Int × (zt33 × ((List Entry) × Unit))))))
abbrev zt16 : Type := (Int × (Int × (Int × (zt33 × ((List Entry) × zt40)))))
abbrev zd41 := ((0 : Int), ((0 : Int), ((0 : Int), ((0 : Int), ((0 : Int), ((), (([] : List Mark), ())))))))
theorem w64 {n : Int} (h1 : -9223372036854775808 <= n) (h2 : n <= 9223372036854775807) : wrap .i64 n = n := by
 simp [wrap, IntKind.signed, IntKind.bits]; omega
theorem w8 {n : Int} (h1 : 0 <= n) (h2 : n <= 255) : wrap .u8 n = n := by
 simp [wrap, IntKind.signed, IntKind.bits]; omega
theorem in64 {n : Int} : inK .i64 n ↔ -9223372036854775808 <= n /\ n <= 9223372036854775807 := by
 unfold inK; rw [i64_min, i64_max]
theorem in8 {n : Int} : inK .u8 n ↔ 0 <= n /\ n <= 255 := by
 unfold inK; rfl
theorem maxLen_eq : maxLen = 9223372036854775807 := rfl
def small {α : Type} (xs : List α) : Bool := decide (xs.length <= 16777216)
theorem small_iff {α : Type} {xs : List α} : small xs = true ↔ xs.length <= 16777216 := by simp [small]
theorem getD_get {α : Type} {xs : List α} {i : Nat} {d : α} (h : i < xs.length) : xs.getD i d = xs[i] := by
 rw [List.getD_eq_getElem?_getD, Zm h]; rfl
def letB {α β : Type} (a : α) (f : α -> β) : β := f a
open Classical in
noncomputable def same {α : Type} (a b : α) : Bool := decide (a = b)
theorem same_true {α : Type} {a b : α} : same a b = true ↔ a = b := by simp [same]
theorem same_self {α : Type} (a : α) : same a a = true := same_true.2 rfl
theorem modify_const {α : Type} (l : List α) (i : Nat) (v : α) : l.modify i (fun _ => v) = l.set i v := by
 apply List.ext_getElem?
 intro j
 rw [List.getElem?_modify, List.getElem?_set]
 by_cases h : i = j
 . subst h
   rcases Nat.lt_or_ge i l.length with hl | hl
   . simp [hl]
   . simp [List.getElem?_eq_none hl, Nat.not_lt.2 hl]
 . simp [h]
def impl_within (n lo hi : Int) : Bool := decide (lo <= n) && decide (n <= hi)
namespace impl_within
abbrev wf (x0 : Int) (x1 : Int) (x2 : Int) : Prop := wfA [(.val (.int .i64) .f), (.val (.int .i64) .f), (.val (.int .i64) .f)] (x0, (x1, (x2, ())))
noncomputable def raw (x0 : Int) (x1 : Int) (x2 : Int) : Option zt30 :=
 if (decide (x1 <= x0)) = true then
 some ((), ((decide (x0 <= x2)), ()))
 else
 some ((), (false, ()))
theorem eq (x0 x1 x2 : Int) (_ : wf x0 x1 x2) : raw x0 x1 x2 = some ((), (impl_within x0 x1 x2, ())) := by
 unfold raw impl_within
 by_cases h : x1 <= x0 <;> simp [h]
end impl_within
abbrev spec_l1In := impl_within
namespace spec_l1In
abbrev wf (x0 : Int) (x1 : Int) (x2 : Int) : Prop := wfA [(.val (.int .i64) .f), (.val (.int .i64) .f), (.val (.int .i64) .f)] (x0, (x1, (x2, ())))
noncomputable def raw (x0 : Int) (x1 : Int) (x2 : Int) : Option zt30 :=
 if (decide (x1 <= x0)) = true then
 some ((), ((decide (x0 <= x2)), ()))
 else
 some ((), (false, ()))
theorem eq (x0 x1 x2 : Int) (_ : wf x0 x1 x2) : raw x0 x1 x2 = some ((), (spec_l1In x0 x1 x2, ())) := by
 unfold raw spec_l1In impl_within
 by_cases h : x1 <= x0 <;> simp [h]
end spec_l1In
def chOk (c : UInt8) : Bool := (decide (97 <= c.toNat) && decide (c.toNat <= 122)) || (decide (48 <= c.toNat) && decide (c.toNat <= 57)) || decide (c.toNat = 32)
def wordsOk (s : List UInt8) : Bool := s.all chOk && decide (s.length <= 30)
abbrev TxS := List UInt8 × (Int × Unit)
def txPre : TxS -> Bool := fun s => decide (s.1.length <= maxLen) && decide (0 <= s.2.1) && decide (s.2.1.toNat <= s.1.length)
def txFn : TxS -> (Bool × Unit) ⊕ (List UInt8 × Unit) := fun s => if (s.1.drop s.2.1.toNat).all chOk = true then .inr (s.1, ()) else .inl (false, ())
def txMu : TxS -> Nat := fun s => s.1.length - s.2.1.toNat
theorem tx_next {x1 : List UInt8} {x2 : Int} (hp : txPre (x1, (x2, ())) = true) (hlt : x2 < (x1.length : Int)) :
 0 <= x2 /\ (chOk (x1.getD x2.toNat 0) = true -> Rounds txPre txMu txFn (x1, (x2, ())) (some (.inl (x1, (wrap .i64 (x2 + 1), ()))))) /\
  (chOk (x1.getD x2.toNat 0) = false -> Rounds txPre txMu txFn (x1, (x2, ())) (some (.inr (.inl (false, ()))))) := by
 simp only [txPre, Zb, Za] at hp
 obtain ⟨⟨h1, h2⟩, h3⟩ := hp
 have hM := maxLen_eq
 have hn : x2.toNat < x1.length := by omega
 have e1 := Zn hn
 rw [getD_get hn]
 refine ⟨h2, fun he => ?_, fun he => ?_⟩
 . simp only [Rounds, w64 (n := x2 + 1) (by omega) (by omega)]
   refine ⟨?_, by simp only [txMu]; omega, ?_⟩
   . simp only [txPre, Zb, Za]
     exact ⟨⟨h1, by omega⟩, by omega⟩
   . simp only [txFn, show (x2 + 1).toNat = x2.toNat + 1 by omega, e1, List.all_cons, he, Bool.true_and]
 . simp only [Rounds, txFn, e1, List.all_cons, he, Bool.false_and, Zj, if_false]
theorem tx_end {x1 : List UInt8} {x2 : Int} (hp : txPre (x1, (x2, ())) = true) (hlt : ¬ x2 < (x1.length : Int)) :
 Rounds txPre txMu txFn (x1, (x2, ())) (some (.inr (.inr (x1, ())))) := by
 simp only [txPre, Zb, Za] at hp
 obtain ⟨⟨h1, h2⟩, h3⟩ := hp
 simp only [Rounds, txFn]
 rw [Zt (by omega)]
 rfl
theorem tx_eq {x0 : List UInt8} (h : x0.length <= maxLen) : txPre (x0, ((0 : Int), ())) = true := by simp [txPre, h]
abbrev impl_wordsOk := wordsOk
abbrev spec_l2Text := wordsOk
namespace impl_wordsOk
def pre2 := txPre
def fn2 := txFn
def mu2 := txMu
noncomputable def raw2 (x1 : (List UInt8)) (x2 : Int) : Option (((List UInt8) × (Int × Unit)) ⊕ ((Bool × Unit) ⊕ zt33)) :=
 if (decide (x2 < ((length x1 : Nat) : Int))) = true then
 if (decide ((0 : Int) <= x2)) = true then
 if (decide (x2 < ((length x1 : Nat) : Int))) = true then
 if (decide (((UInt8.toNat (List.getD x1 (Int.toNat x2) 0) : Nat) : Int) < (97 : Int))) = true then
 if (decide (((UInt8.toNat (List.getD x1 (Int.toNat x2) 0) : Nat) : Int) < (48 : Int))) = true then
 if (!(decide (((UInt8.toNat (List.getD x1 (Int.toNat x2) 0) : Nat) : Int) = (32 : Int)))) = true then
 some (.inr (.inl (false, ())))
 else
 some (.inl (x1, ((wrap .i64 (x2 + (1 : Int))), ())))
 else
 if (decide ((57 : Int) < ((UInt8.toNat (List.getD x1 (Int.toNat x2) 0) : Nat) : Int))) = true then
 if (!(decide (((UInt8.toNat (List.getD x1 (Int.toNat x2) 0) : Nat) : Int) = (32 : Int)))) = true then
 some (.inr (.inl (false, ())))
 else
 some (.inl (x1, ((wrap .i64 (x2 + (1 : Int))), ())))
 else
 some (.inl (x1, ((wrap .i64 (x2 + (1 : Int))), ())))
 else
 if (decide ((122 : Int) < ((UInt8.toNat (List.getD x1 (Int.toNat x2) 0) : Nat) : Int))) = true then
 if (decide (((UInt8.toNat (List.getD x1 (Int.toNat x2) 0) : Nat) : Int) < (48 : Int))) = true then
 if (!(decide (((UInt8.toNat (List.getD x1 (Int.toNat x2) 0) : Nat) : Int) = (32 : Int)))) = true then
 some (.inr (.inl (false, ())))
 else
 some (.inl (x1, ((wrap .i64 (x2 + (1 : Int))), ())))
 else
 if (decide ((57 : Int) < ((UInt8.toNat (List.getD x1 (Int.toNat x2) 0) : Nat) : Int))) = true then
 if (!(decide (((UInt8.toNat (List.getD x1 (Int.toNat x2) 0) : Nat) : Int) = (32 : Int)))) = true then
 some (.inr (.inl (false, ())))
 else
 some (.inl (x1, ((wrap .i64 (x2 + (1 : Int))), ())))
 else
 some (.inl (x1, ((wrap .i64 (x2 + (1 : Int))), ())))
 else
 some (.inl (x1, ((wrap .i64 (x2 + (1 : Int))), ())))
 else
 none
 else
 none
 else
 some (.inr (.inr (x1, ())))
abbrev wf (x0 : (List UInt8)) : Prop := wfA [(.val .str .f)] (x0, ())
noncomputable def raw (x0 : (List UInt8)) : Option zt30 :=
 if (impl_wordsOk.pre2 (x0, ((0 : Int), ()))) = true then
  match (impl_wordsOk.fn2 (x0, ((0 : Int), ()))) with
  | .inl y =>
   some ((), y)
  | .inr y =>
   some ((), ((decide (((length y.1 : Nat) : Int) <= (30 : Int))), ()))
 else
  none
theorem ok2 (x1 : List UInt8) (x2 : Int) (hp : pre2 (x1, (x2, ())) = true) : Rounds pre2 mu2 fn2 (x1, (x2, ())) (raw2 x1 x2) := by
 unfold raw2
 by_cases hlt : x2 < (x1.length : Int)
 . obtain ⟨h1, h2, h3⟩ := tx_next hp hlt
   simp only [hlt, h1, decide_true, if_true, Za, Bool.not_eq_true', Zv]
   generalize hc : (x1.getD x2.toNat 0) = c at *
   have hk : chOk c = true \/ chOk c = false := by cases chOk c <;> simp
   unfold chOk at hk h2 h3
   simp only [Bool.or_eq_true, Zb, Za, Bool.or_eq_false_iff, Bool.and_eq_false_iff, Zv] at hk h2 h3
   repeat' split
   all_goals first | (exact h2 (by omega)) | (exact h3 (by omega))
 . simp only [hlt, decide_false, Zj, if_false]
   exact tx_end hp hlt
theorem eq (x0 : List UInt8) (hw : wf x0) : raw x0 = some ((), (impl_wordsOk x0, ())) := by
 have h1 : x0.length <= maxLen := hw.1
 unfold raw impl_wordsOk wordsOk
 rw [if_pos (show pre2 _ = true from tx_eq h1)]
 simp only [fn2, txFn, Int.toNat_zero, List.drop_zero]
 by_cases h : x0.all chOk = true
 . rw [if_pos h, h]
   by_cases hl : x0.length <= 30
   . simp [hl]; omega
   . simp [hl]; omega
 . rw [if_neg h]; simp [h]
end impl_wordsOk
namespace spec_l2Text
def pre2 := txPre
def fn2 := txFn
def mu2 := txMu
noncomputable def raw2 (x1 : (List UInt8)) (x2 : Int) : Option (((List UInt8) × (Int × Unit)) ⊕ ((Bool × Unit) ⊕ zt33)) :=
 if (decide (x2 < ((length x1 : Nat) : Int))) = true then
 if (decide ((0 : Int) <= x2)) = true then
 if (decide (x2 < ((length x1 : Nat) : Int))) = true then
 if (decide ((97 : Int) <= ((UInt8.toNat (List.getD x1 (Int.toNat x2) 0) : Nat) : Int))) = true then
 if (decide (((UInt8.toNat (List.getD x1 (Int.toNat x2) 0) : Nat) : Int) <= (122 : Int))) = true then
 if (!true) = true then
 some (.inr (.inl (false, ())))
 else
 some (.inl (x1, ((wrap .i64 (x2 + (1 : Int))), ())))
 else
 if (decide ((48 : Int) <= ((UInt8.toNat (List.getD x1 (Int.toNat x2) 0) : Nat) : Int))) = true then
 if (decide (((UInt8.toNat (List.getD x1 (Int.toNat x2) 0) : Nat) : Int) <= (57 : Int))) = true then
 if (!true) = true then
 some (.inr (.inl (false, ())))
 else
 some (.inl (x1, ((wrap .i64 (x2 + (1 : Int))), ())))
 else
 if (!(decide (((UInt8.toNat (List.getD x1 (Int.toNat x2) 0) : Nat) : Int) = (32 : Int)))) = true then
 some (.inr (.inl (false, ())))
 else
 some (.inl (x1, ((wrap .i64 (x2 + (1 : Int))), ())))
 else
 if (!(decide (((UInt8.toNat (List.getD x1 (Int.toNat x2) 0) : Nat) : Int) = (32 : Int)))) = true then
 some (.inr (.inl (false, ())))
 else
 some (.inl (x1, ((wrap .i64 (x2 + (1 : Int))), ())))
 else
 if (decide ((48 : Int) <= ((UInt8.toNat (List.getD x1 (Int.toNat x2) 0) : Nat) : Int))) = true then
 if (decide (((UInt8.toNat (List.getD x1 (Int.toNat x2) 0) : Nat) : Int) <= (57 : Int))) = true then
 if (!true) = true then
 some (.inr (.inl (false, ())))
 else
 some (.inl (x1, ((wrap .i64 (x2 + (1 : Int))), ())))
 else
 if (!(decide (((UInt8.toNat (List.getD x1 (Int.toNat x2) 0) : Nat) : Int) = (32 : Int)))) = true then
 some (.inr (.inl (false, ())))
 else
 some (.inl (x1, ((wrap .i64 (x2 + (1 : Int))), ())))
 else
 if (!(decide (((UInt8.toNat (List.getD x1 (Int.toNat x2) 0) : Nat) : Int) = (32 : Int)))) = true then
 some (.inr (.inl (false, ())))
 else
 some (.inl (x1, ((wrap .i64 (x2 + (1 : Int))), ())))
 else
 none
 else
 none
 else
 some (.inr (.inr (x1, ())))
abbrev wf (x0 : (List UInt8)) : Prop := wfA [(.val .str .f)] (x0, ())
noncomputable def raw (x0 : (List UInt8)) : Option zt30 :=
 if (spec_l2Text.pre2 (x0, ((0 : Int), ()))) = true then
  match (spec_l2Text.fn2 (x0, ((0 : Int), ()))) with
  | .inl y =>
   some ((), y)
  | .inr y =>
   some ((), ((decide (((length y.1 : Nat) : Int) <= (30 : Int))), ()))
 else
  none
theorem ok2 (x1 : List UInt8) (x2 : Int) (hp : pre2 (x1, (x2, ())) = true) : Rounds pre2 mu2 fn2 (x1, (x2, ())) (raw2 x1 x2) := by
 unfold raw2
 by_cases hlt : x2 < (x1.length : Int)
 . obtain ⟨h1, h2, h3⟩ := tx_next hp hlt
   simp only [hlt, h1, decide_true, if_true, Za, Bool.not_eq_true', Zv, Bool.not_true, Zj, if_false]
   generalize hc : (x1.getD x2.toNat 0) = c at *
   have hk : chOk c = true \/ chOk c = false := by cases chOk c <;> simp
   unfold chOk at hk h2 h3
   simp only [Bool.or_eq_true, Zb, Za, Bool.or_eq_false_iff, Bool.and_eq_false_iff, Zv] at hk h2 h3
   repeat' split
   all_goals first | (exact h2 (by omega)) | (exact h3 (by omega))
 . simp only [hlt, decide_false, Zj, if_false]
   exact tx_end hp hlt
theorem eq (x0 : List UInt8) (hw : wf x0) : raw x0 = some ((), (spec_l2Text x0, ())) := by
 have h1 : x0.length <= maxLen := hw.1
 unfold raw spec_l2Text wordsOk
 rw [if_pos (show pre2 _ = true from tx_eq h1)]
 simp only [fn2, txFn, Int.toNat_zero, List.drop_zero]
 by_cases h : x0.all chOk = true
 . rw [if_pos h, h]
   by_cases hl : x0.length <= 30
   . simp [hl]; omega
   . simp [hl]; omega
 . rw [if_neg h]; simp [h]
end spec_l2Text
def CmdOk (c : Cmd) : Bool :=
 if c.1 = -1 then decide (c.1 = -1) && (decide (c.2.1 = 0) && (decide (c.2.2.1 = 0) && (decide (c.2.2.2.1 = 0) && (decide (c.2.2.2.2.1 = 0) && (decide (c.2.2.2.2.2.1 = 0) && (c.2.2.2.2.2.2.1 == [] && c.2.2.2.2.2.2.2.1 == []))))))
 else impl_within c.1 0 3 && (impl_within c.2.1 1 100000 && (impl_within c.2.2.1 1 10 && (impl_within c.2.2.2.1 0 100000 && (impl_within c.2.2.2.2.1 0 100000 && (impl_within c.2.2.2.2.2.1 0 100000 && (wordsOk c.2.2.2.2.2.2.1 && wordsOk c.2.2.2.2.2.2.2.1))))))
abbrev impl_CmdOk := CmdOk
abbrev spec_CmdOk := CmdOk
namespace impl_CmdOk
abbrev wf (x0 : Cmd) : Prop := wfA [(.val zk4 .f)] (x0, ())
noncomputable def raw (x0 : Cmd) : Option zt30 :=
 if (decide (x0.1 = (-1 : Int))) = true then
 some ((), (((decide (x0.1 = (-1 : Int))) && ((decide (x0.2.1 = (0 : Int))) && ((decide (x0.2.2.1 = (0 : Int))) && ((decide (x0.2.2.2.1 = (0 : Int))) && ((decide (x0.2.2.2.2.1 = (0 : Int))) && ((decide (x0.2.2.2.2.2.1 = (0 : Int))) && ((x0.2.2.2.2.2.2.1 == ([] : List UInt8)) && (x0.2.2.2.2.2.2.2.1 == ([] : List UInt8))))))))), ()))
 else
 if (impl_within x0.1 (0 : Int) (3 : Int)) = true then
 if (impl_within x0.2.1 (1 : Int) (100000 : Int)) = true then
 if (impl_within x0.2.2.1 (1 : Int) (10 : Int)) = true then
 if (impl_within x0.2.2.2.1 (0 : Int) (100000 : Int)) = true then
 if (impl_within x0.2.2.2.2.1 (0 : Int) (100000 : Int)) = true then
 if (impl_within x0.2.2.2.2.2.1 (0 : Int) (100000 : Int)) = true then
 if (wordsOk x0.2.2.2.2.2.2.1) = true then
 some ((), ((wordsOk x0.2.2.2.2.2.2.2.1), ()))
 else
 some ((), (false, ()))
 else
 some ((), (false, ()))
 else
 some ((), (false, ()))
 else
 some ((), (false, ()))
 else
 some ((), (false, ()))
 else
 some ((), (false, ()))
 else
 some ((), (false, ()))
theorem eq (x0 : Cmd) (_ : wf x0) : raw x0 = some ((), (impl_CmdOk x0, ())) := by
 unfold raw impl_CmdOk CmdOk
 simp only [Za]
 split
 . rfl
 . cases impl_within x0.1 0 3 <;> simp only [Zj, if_false, if_true, Bool.false_and, Bool.true_and]
   cases impl_within x0.2.1 1 100000 <;> simp only [Zj, if_false, if_true, Bool.false_and, Bool.true_and]
   cases impl_within x0.2.2.1 1 10 <;> simp only [Zj, if_false, if_true, Bool.false_and, Bool.true_and]
   cases impl_within x0.2.2.2.1 0 100000 <;> simp only [Zj, if_false, if_true, Bool.false_and, Bool.true_and]
   cases impl_within x0.2.2.2.2.1 0 100000 <;> simp only [Zj, if_false, if_true, Bool.false_and, Bool.true_and]
   cases impl_within x0.2.2.2.2.2.1 0 100000 <;> simp only [Zj, if_false, if_true, Bool.false_and, Bool.true_and]
   cases wordsOk x0.2.2.2.2.2.2.1 <;> simp only [Zj, if_false, if_true, Bool.false_and, Bool.true_and]
end impl_CmdOk
namespace spec_CmdOk
abbrev wf (x0 : Cmd) : Prop := wfA [(.val zk4 .f)] (x0, ())
noncomputable def raw (x0 : Cmd) : Option zt30 :=
 if (decide (x0.1 = (-1 : Int))) = true then
 some ((), (((decide (x0.1 = (-1 : Int))) && ((decide (x0.2.1 = (0 : Int))) && ((decide (x0.2.2.1 = (0 : Int))) && ((decide (x0.2.2.2.1 = (0 : Int))) && ((decide (x0.2.2.2.2.1 = (0 : Int))) && ((decide (x0.2.2.2.2.2.1 = (0 : Int))) && ((x0.2.2.2.2.2.2.1 == ([] : List UInt8)) && (x0.2.2.2.2.2.2.2.1 == ([] : List UInt8))))))))), ()))
 else
 if (impl_within x0.1 (0 : Int) (3 : Int)) = true then
 if (impl_within x0.2.1 (1 : Int) (100000 : Int)) = true then
 if (impl_within x0.2.2.1 (1 : Int) (10 : Int)) = true then
 if (impl_within x0.2.2.2.1 (0 : Int) (100000 : Int)) = true then
 if (impl_within x0.2.2.2.2.1 (0 : Int) (100000 : Int)) = true then
 if (impl_within x0.2.2.2.2.2.1 (0 : Int) (100000 : Int)) = true then
 if (wordsOk x0.2.2.2.2.2.2.1) = true then
 some ((), ((wordsOk x0.2.2.2.2.2.2.2.1), ()))
 else
 some ((), (false, ()))
 else
 some ((), (false, ()))
 else
 some ((), (false, ()))
 else
 some ((), (false, ()))
 else
 some ((), (false, ()))
 else
 some ((), (false, ()))
 else
 some ((), (false, ()))
theorem eq (x0 : Cmd) (_ : wf x0) : raw x0 = some ((), (spec_CmdOk x0, ())) := by
 unfold raw spec_CmdOk CmdOk
 simp only [Za]
 split
 . rfl
 . cases impl_within x0.1 0 3 <;> simp only [Zj, if_false, if_true, Bool.false_and, Bool.true_and]
   cases impl_within x0.2.1 1 100000 <;> simp only [Zj, if_false, if_true, Bool.false_and, Bool.true_and]
   cases impl_within x0.2.2.1 1 10 <;> simp only [Zj, if_false, if_true, Bool.false_and, Bool.true_and]
   cases impl_within x0.2.2.2.1 0 100000 <;> simp only [Zj, if_false, if_true, Bool.false_and, Bool.true_and]
   cases impl_within x0.2.2.2.2.1 0 100000 <;> simp only [Zj, if_false, if_true, Bool.false_and, Bool.true_and]
   cases impl_within x0.2.2.2.2.2.1 0 100000 <;> simp only [Zj, if_false, if_true, Bool.false_and, Bool.true_and]
   cases wordsOk x0.2.2.2.2.2.2.1 <;> simp only [Zj, if_false, if_true, Bool.false_and, Bool.true_and]
end spec_CmdOk
abbrev E0 : Entry := zd24
theorem dropTake_len {α : Type} (lo hi : Nat) (xs : List α) : (dropTake lo hi xs).length <= xs.length := by
 simp only [dropTake, Zr, Zs]; omega
section
variable {α : Type}
def idxF (g : α -> Bool) : List α -> Int -> Int
 | [], _ => -1
 | a :: r, i => if g a = true then i else idxF g r (i + 1)
theorem idxF_lo (g : α -> Bool) : (xs : List α) -> (i : Int) -> 0 <= i -> -1 <= idxF g xs i /\ (0 <= idxF g xs i ↔ xs.any g = true)
 | [], i, h => by simp [idxF]
 | a :: r, i, h => by
  simp only [idxF, List.any_cons]
  by_cases ha : g a = true
  . simp [ha]; omega
  . have := idxF_lo g r (i + 1) (by omega)
    simp only [Bool.not_eq_true] at ha
    simp only [ha, Zj, if_false, Bool.false_or]
    exact this
abbrev IxS (α : Type) := List α × ((α -> Bool) × ((α -> Bool) × (Int × (Int × Unit))))
def ixPre : IxS α -> Bool := fun s => decide (s.1.length <= maxLen) && (decide (s.2.2.2.1 = (s.1.length : Int)) && (decide (0 <= s.2.2.2.2.1) && (decide (s.2.2.2.2.1.toNat <= s.1.length) && s.1.all s.2.1)))
def ixFn : IxS α -> (Int × Unit) ⊕ Unit := fun s => if idxF s.2.2.1 (s.1.drop s.2.2.2.2.1.toNat) s.2.2.2.2.1 < 0 then .inr () else .inl (idxF s.2.2.1 (s.1.drop s.2.2.2.2.1.toNat) s.2.2.2.2.1, ())
def ixMu : IxS α -> Nat := fun s => s.1.length - s.2.2.2.2.1.toNat
theorem ix_next {x1 : List α} {x2 x3 : α -> Bool} {x4 x5 : Int} (hp : ixPre (x1, (x2, (x3, (x4, (x5, ()))))) = true) (hlt : x5 < x4) (d : α) :
 0 <= x5 /\ x5 < (x1.length : Int) /\ x2 (x1.getD x5.toNat d) = true /\ (x3 (x1.getD x5.toNat d) = true -> Rounds ixPre ixMu ixFn (x1, (x2, (x3, (x4, (x5, ()))))) (some (.inr (.inl (x5, ()))))) /\
  (¬ x3 (x1.getD x5.toNat d) = true -> Rounds ixPre ixMu ixFn (x1, (x2, (x3, (x4, (x5, ()))))) (some (.inl (x1, (x2, (x3, (x4, (wrap .i64 (x5 + 1), ())))))))) := by
 simp only [ixPre, Zb, Za] at hp
 obtain ⟨h1, rfl, h3, h4, h5⟩ := hp
 have hM := maxLen_eq
 have hn : x5.toNat < x1.length := by omega
 have e1 := Zn hn
 rw [getD_get hn]
 refine ⟨h3, hlt, Zu.1 h5 _ (List.getElem_mem hn), fun he => ?_, fun he => ?_⟩
 . simp only [Rounds, ixFn, e1, idxF, he, if_true]
   rw [if_neg (by omega)]
 . simp only [Rounds, w64 (n := x5 + 1) (by omega) (by omega)]
   refine ⟨?_, by simp only [ixMu]; omega, ?_⟩
   . simp only [ixPre, Zb, Za]
     exact ⟨h1, trivial, by omega, by omega, h5⟩
   . simp only [ixFn, show (x5 + 1).toNat = x5.toNat + 1 by omega, e1, idxF, he, if_false]
     rfl
theorem ix_end {x1 : List α} {x2 x3 : α -> Bool} {x4 x5 : Int} (hp : ixPre (x1, (x2, (x3, (x4, (x5, ()))))) = true) (hlt : ¬ x5 < x4) :
 Rounds ixPre ixMu ixFn (x1, (x2, (x3, (x4, (x5, ()))))) (some (.inr (.inr ()))) := by
 simp only [ixPre, Zb, Za] at hp
 obtain ⟨h1, rfl, h3, h4, h5⟩ := hp
 simp only [Rounds, ixFn]
 rw [Zt (by omega)]
 rfl
end
def slices_IndexFunc_Entry (xs : List Entry) (p : (Entry -> Bool) × (Entry -> Bool)) : Int := idxF p.2 xs 0
namespace slices_IndexFunc_Entry
def pre (xs : List Entry) (p : (Entry -> Bool) × (Entry -> Bool)) : Bool := xs.all p.1
def pre2 := ixPre (α := Entry)
def fn2 := ixFn (α := Entry)
def mu2 := ixMu (α := Entry)
noncomputable def raw2 (x1 : (List Entry)) (x2 : (Entry -> Bool)) (x3 : (Entry -> Bool)) (x4 : Int) (x5 : Int) : Option (((List Entry) × ((Entry -> Bool) × ((Entry -> Bool) × Mark))) ⊕ ((Int × Unit) ⊕ Unit)) :=
 if (decide (x5 < x4)) = true then
 if (decide ((0 : Int) <= x5)) = true then
 if (decide (x5 < ((length x1 : Nat) : Int))) = true then
 if (x2 (List.getD x1 (Int.toNat x5) zd24)) = true then
 if (x3 (List.getD x1 (Int.toNat x5) zd24)) = true then
 some (.inr (.inl (x5, ())))
 else
 some (.inl (x1, (x2, (x3, (x4, ((wrap .i64 (x5 + (1 : Int))), ()))))))
 else
 none
 else
 none
 else
 none
 else
 some (.inr (.inr ()))
abbrev wf (x0 : (List Entry)) (x1 : ((Entry -> Bool) × (Entry -> Bool))) : Prop := wfA [(.val (.sl 0 (.pair (.int .i64) (.pair zk4 .unit))) .f), (.fn (.pair (.int .i64) (.pair zk4 .unit)) .bool)] (x0, (x1, ()))
noncomputable def raw (x0 : (List Entry)) (x1 : ((Entry -> Bool) × (Entry -> Bool))) : Option (Unit × (Int × Unit)) :=
 if (slices_IndexFunc_Entry.pre2 (x0, (x1.1, (x1.2, (((length x0 : Nat) : Int), ((0 : Int), ())))))) = true then
  match (slices_IndexFunc_Entry.fn2 (x0, (x1.1, (x1.2, (((length x0 : Nat) : Int), ((0 : Int), ())))))) with
  | .inl y =>
   some ((), y)
  | .inr y =>
   some ((), ((-1 : Int), ()))
 else
  none
theorem ok2 (x1 : List Entry) (x2 x3 : Entry -> Bool) (x4 x5 : Int) (hp : pre2 (x1, (x2, (x3, (x4, (x5, ()))))) = true) : Rounds pre2 mu2 fn2 (x1, (x2, (x3, (x4, (x5, ()))))) (raw2 x1 x2 x3 x4 x5) := by
 unfold raw2
 by_cases hlt : x5 < x4
 . obtain ⟨h1, h2, h3, h4, h5⟩ := ix_next hp hlt E0
   simp only [hlt, h1, h2, h3, decide_true, if_true]
   split
   . rename_i h; exact h4 h
   . rename_i h; exact h5 h
 . simp only [hlt, decide_false, Zj, if_false]
   exact ix_end hp hlt
theorem eq (x0 : List Entry) (x1 : (Entry -> Bool) × (Entry -> Bool)) (hw : wf x0 x1) (hp : pre x0 x1 = true) : raw x0 x1 = some ((), (slices_IndexFunc_Entry x0 x1, ())) := by
 have h1 : x0.length <= maxLen := hw.1.1
 unfold raw
 rw [if_pos (show pre2 _ = true by simp only [pre2, ixPre, Zb, Za]; exact ⟨h1, trivial, by omega, by simp, hp⟩)]
 have hlo := (idxF_lo x1.2 x0 0 (by omega)).1
 by_cases h : idxF x1.2 x0 0 < 0
 . have hf : fn2 (x0, (x1.1, (x1.2, (((x0.length : Nat) : Int), ((0 : Int), ()))))) = .inr () := if_pos h
   rw [hf]
   show _ = some ((), (idxF x1.2 x0 0, ()))
   rw [show idxF x1.2 x0 0 = -1 by omega]
 . have hf : fn2 (x0, (x1.1, (x1.2, (((x0.length : Nat) : Int), ((0 : Int), ()))))) = .inl (idxF x1.2 x0 0, ()) := if_neg h
   rw [hf]; rfl
end slices_IndexFunc_Entry
def slices_ContainsFunc_Entry (xs : List Entry) (p : (Entry -> Bool) × (Entry -> Bool)) : Bool := xs.any p.2
namespace slices_ContainsFunc_Entry
def pre (xs : List Entry) (p : (Entry -> Bool) × (Entry -> Bool)) : Bool := xs.all p.1
abbrev wf (x0 : (List Entry)) (x1 : ((Entry -> Bool) × (Entry -> Bool))) : Prop := wfA [(.val (.sl 0 (.pair (.int .i64) (.pair zk4 .unit))) .f), (.fn (.pair (.int .i64) (.pair zk4 .unit)) .bool)] (x0, (x1, ()))
noncomputable def raw (x0 : (List Entry)) (x1 : ((Entry -> Bool) × (Entry -> Bool))) : Option zt30 :=
 if (slices_IndexFunc_Entry.pre x0 x1) = true then
 some ((), ((decide ((0 : Int) <= (slices_IndexFunc_Entry x0 x1))), ()))
 else
 none
theorem eq (x0 : List Entry) (x1 : (Entry -> Bool) × (Entry -> Bool)) (_ : wf x0 x1) (hp : pre x0 x1 = true) : raw x0 x1 = some ((), (slices_ContainsFunc_Entry x0 x1, ())) := by
 unfold raw slices_ContainsFunc_Entry slices_IndexFunc_Entry
 rw [if_pos (show slices_IndexFunc_Entry.pre _ _ = true from hp)]
 have h := (idxF_lo x1.2 x0 0 (by omega)).2
 by_cases ha : x0.any x1.2 = true
 . rw [ha, Zd (h.2 ha)]
 . have h0 : ¬ 0 <= idxF x1.2 x0 0 := fun hh => ha (h.1 hh)
   rw [decide_eq_false h0]
   simp only [Bool.not_eq_true] at ha
   rw [ha]
end slices_ContainsFunc_Entry
def eOk (t : Int) (e : Entry) : Bool := impl_within e.1 0 t && CmdOk e.2.1
def impl_NoteOk_1 (e : Entry) : Bool := !eOk 300 e
namespace impl_NoteOk_1
abbrev wf (x0 : Entry) : Prop := wfA [(.val (.pair (.int .i64) (.pair zk4 .unit)) .f)] (x0, ())
noncomputable def raw (x0 : Entry) : Option zt30 :=
 if (!(impl_within x0.1 (0 : Int) (300 : Int))) = true then
 some ((), (true, ()))
 else
 some ((), ((!(CmdOk x0.2.1)), ()))
theorem eq (x0 : Entry) (_ : wf x0) : raw x0 = some ((), (impl_NoteOk_1 x0, ())) := by
 unfold raw impl_NoteOk_1 eOk
 cases impl_within x0.1 0 300 <;> simp
end impl_NoteOk_1
def spec_l9List (xs : List Entry) (t : Int) : Bool := xs.all (eOk t) && decide (xs.length <= 40)
namespace spec_l9List
abbrev S := List Entry × (Int × (Int × Unit))
def pre2 : S -> Bool := fun s => decide (s.1.length <= maxLen) && (decide (0 <= s.2.2.1) && decide (s.2.2.1.toNat <= s.1.length))
def fn2 : S -> (Bool × Unit) ⊕ (List Entry × Unit) := fun s => if (s.1.drop s.2.2.1.toNat).all (eOk s.2.1) = true then .inr (s.1, ()) else .inl (false, ())
def mu2 : S -> Nat := fun s => s.1.length - s.2.2.1.toNat
noncomputable def raw2 (x1 : (List Entry)) (x2 : Int) (x3 : Int) : Option (((List Entry) × Mark) ⊕ ((Bool × Unit) ⊕ ((List Entry) × Unit))) :=
 if (decide (x3 < ((length x1 : Nat) : Int))) = true then
 if (decide ((0 : Int) <= x3)) = true then
 if (decide (x3 < ((length x1 : Nat) : Int))) = true then
 if (!(impl_within (List.getD x1 (Int.toNat x3) zd24).1 (0 : Int) x2)) = true then
 some (.inr (.inl (false, ())))
 else
 if (decide ((0 : Int) <= x3)) = true then
 if (decide (x3 < ((length x1 : Nat) : Int))) = true then
 if (!(CmdOk (List.getD x1 (Int.toNat x3) zd24).2.1)) = true then
 some (.inr (.inl (false, ())))
 else
 some (.inl (x1, (x2, ((wrap .i64 (x3 + (1 : Int))), ()))))
 else
 none
 else
 none
 else
 none
 else
 none
 else
 some (.inr (.inr (x1, ())))
abbrev wf (x0 : (List Entry)) (x1 : Int) : Prop := wfA [(.val (.sl 0 (.pair (.int .i64) (.pair zk4 .unit))) .f), (.val (.int .i64) .f)] (x0, (x1, ()))
noncomputable def raw (x0 : (List Entry)) (x1 : Int) : Option zt30 :=
 if (spec_l9List.pre2 (x0, (x1, ((0 : Int), ())))) = true then
  match (spec_l9List.fn2 (x0, (x1, ((0 : Int), ())))) with
  | .inl y =>
   some ((), y)
  | .inr y =>
   some ((), ((decide (((length y.1 : Nat) : Int) <= (40 : Int))), ()))
 else
  none
theorem ok2 (x1 : List Entry) (x2 x3 : Int) (hp : pre2 (x1, (x2, (x3, ()))) = true) : Rounds pre2 mu2 fn2 (x1, (x2, (x3, ()))) (raw2 x1 x2 x3) := by
 simp only [pre2, Zb, Za] at hp
 obtain ⟨h1, h2, h3⟩ := hp
 have hM := maxLen_eq
 unfold raw2
 by_cases hlt : x3 < (x1.length : Int)
 . have hn : x3.toNat < x1.length := by omega
   have e1 := Zn hn
   simp only [hlt, h2, decide_true, if_true, getD_get hn]
   cases ha : impl_within (x1[x3.toNat]).1 0 x2 with
   | false => simp only [Rounds, fn2, e1, List.all_cons, eOk, ha, Bool.false_and, Bool.not_false, Zj, if_true, if_false]
   | true =>
    cases hb : CmdOk (x1[x3.toNat]).2.1 with
    | false => simp only [Rounds, fn2, e1, List.all_cons, eOk, ha, hb, Bool.true_and, Bool.false_and, Bool.not_false, Bool.not_true, Zj, if_true, if_false]
    | true =>
     simp only [Bool.not_true, Zj, if_false, Rounds, w64 (n := x3 + 1) (by omega) (by omega)]
     refine ⟨?_, by simp only [mu2]; omega, ?_⟩
     . simp only [pre2, Zb, Za]
       exact ⟨h1, by omega, by omega⟩
     . simp only [fn2, show (x3 + 1).toNat = x3.toNat + 1 by omega, e1, List.all_cons]
       rw [show eOk x2 x1[x3.toNat] = true by simp [eOk, ha, hb], Bool.true_and]
 . simp only [hlt, decide_false, Zj, if_false, Rounds, fn2]
   rw [Zt (by omega)]
   rfl
theorem eq (x0 : List Entry) (x1 : Int) (hw : wf x0 x1) : raw x0 x1 = some ((), (spec_l9List x0 x1, ())) := by
 have h1 : x0.length <= maxLen := hw.1.1
 unfold raw spec_l9List
 rw [if_pos (show pre2 _ = true by simp [pre2, h1])]
 by_cases ha : x0.all (eOk x1) = true
 . have hf : fn2 (x0, (x1, ((0 : Int), ()))) = .inr (x0, ()) := if_pos ha
   rw [hf, ha]
   by_cases hl : x0.length <= 40
   . simp [hl]; omega
   . simp [hl]; omega
 . have hf : fn2 (x0, (x1, ((0 : Int), ()))) = .inl (false, ()) := if_neg ha
   rw [hf]
   simp only [Bool.not_eq_true] at ha
   simp [ha]
end spec_l9List
def kindOk (r : Note) : Bool :=
 if r.1 = 1 then impl_within r.2.2.1 (-1) 4 && (decide (r.2.2.2.1 = 0) && (decide ((r.2.2.2.2.1.length : Int) = 0) && r.2.2.2.2.2.1 == []))
 else if r.1 = 2 then decide (r.2.2.1 = 0) && r.2.2.2.2.2.1 == []
 else if r.1 = 3 then decide (r.2.2.1 = 0) && decide ((r.2.2.2.2.1.length : Int) = 0)
 else false
def NoteOk (r : Note) : Bool := impl_within r.2.1 0 300 && (impl_within r.2.2.2.1 0 300 && (spec_l9List r.2.2.2.2.1 300 && (decide ((r.2.2.2.2.2.1.length : Int) <= 30000) && kindOk r)))
abbrev impl_NoteOk := NoteOk
abbrev spec_NoteOk := NoteOk
theorem any_not {α : Type} (f : α -> Bool) (xs : List α) : xs.any (fun x => !f x) = !xs.all f := by
 induction xs with
 | nil => rfl
 | cons a r ih => simp [ih, Bool.not_and]
namespace spec_NoteOk
abbrev wf (x0 : Note) : Prop := wfA [(.val zk18 .f)] (x0, ())
noncomputable def raw (x0 : Note) : Option zt30 :=
 if (!(impl_within x0.2.1 (0 : Int) (300 : Int))) = true then
 some ((), (false, ()))
 else
 if (!(impl_within x0.2.2.2.1 (0 : Int) (300 : Int))) = true then
 some ((), (false, ()))
 else
 if (!(spec_l9List x0.2.2.2.2.1 (300 : Int))) = true then
 some ((), (false, ()))
 else
 if (decide ((30000 : Int) < ((length x0.2.2.2.2.2.1 : Nat) : Int))) = true then
 some ((), (false, ()))
 else
 if (decide (x0.1 = (1 : Int))) = true then
 if (impl_within x0.2.2.1 (-1 : Int) (4 : Int)) = true then
 if (decide (x0.2.2.2.1 = (0 : Int))) = true then
 if (decide (((length x0.2.2.2.2.1 : Nat) : Int) = (0 : Int))) = true then
 some ((), ((x0.2.2.2.2.2.1 == ([] : List UInt8)), ()))
 else
 some ((), (false, ()))
 else
 some ((), (false, ()))
 else
 some ((), (false, ()))
 else
 if (decide (x0.1 = (2 : Int))) = true then
 if (decide (x0.2.2.1 = (0 : Int))) = true then
 some ((), ((x0.2.2.2.2.2.1 == ([] : List UInt8)), ()))
 else
 some ((), (false, ()))
 else
 if (decide (x0.1 = (3 : Int))) = true then
 if (decide (x0.2.2.1 = (0 : Int))) = true then
 some ((), ((decide (((length x0.2.2.2.2.1 : Nat) : Int) = (0 : Int))), ()))
 else
 some ((), (false, ()))
 else
 some ((), (false, ()))
theorem eq (x0 : Note) (_ : wf x0) : raw x0 = some ((), (spec_NoteOk x0, ())) := by
 unfold raw spec_NoteOk NoteOk kindOk
 cases impl_within x0.2.1 0 300
 . simp
 cases impl_within x0.2.2.2.1 0 300
 . simp
 cases spec_l9List x0.2.2.2.2.1 300
 . simp
 by_cases hs : (x0.2.2.2.2.2.1.length : Int) <= 30000
 case neg =>
  have hs' : (30000 : Int) < (x0.2.2.2.2.2.1.length : Int) := by omega
  simp [hs, hs']
 have hs' : ¬ (30000 : Int) < (x0.2.2.2.2.2.1.length : Int) := by omega
 simp only [hs, hs', decide_true, decide_false, Bool.not_true, Zj, if_false, Bool.true_and, Za]
 split
 . cases impl_within x0.2.2.1 (-1) 4 <;> simp only [Zj, if_false, if_true, Bool.false_and, Bool.true_and]
   split
   . rename_i h; simp only [h, decide_true, Bool.true_and]
     split
     . rename_i h; simp only [h, decide_true, Bool.true_and]
     . rename_i h; simp only [h, decide_false, Bool.false_and]
   . rename_i h; simp only [h, decide_false, Bool.false_and]
 split
 . split
   . rename_i h; simp only [h, decide_true, Bool.true_and]
   . rename_i h; simp only [h, decide_false, Bool.false_and]
 split
 . split
   . rename_i h; simp only [h, decide_true, Bool.true_and]
   . rename_i h; simp only [h, decide_false, Bool.false_and]
 . rfl
end spec_NoteOk
namespace impl_NoteOk
abbrev wf (x0 : Note) : Prop := wfA [(.val zk18 .f)] (x0, ())
noncomputable def raw (x0 : Note) : Option zt30 :=
 if (!(impl_within x0.2.1 (0 : Int) (300 : Int))) = true then
 some ((), (false, ()))
 else
 if (!(impl_within x0.2.2.2.1 (0 : Int) (300 : Int))) = true then
 some ((), (false, ()))
 else
 if (decide ((40 : Int) < ((length x0.2.2.2.2.1 : Nat) : Int))) = true then
 some ((), (false, ()))
 else
 if (decide ((30000 : Int) < ((length x0.2.2.2.2.2.1 : Nat) : Int))) = true then
 some ((), (false, ()))
 else
 if (slices_ContainsFunc_Entry.pre x0.2.2.2.2.1 ((fun x => true), (fun x => (impl_NoteOk_1 x)))) = true then
 if (slices_ContainsFunc_Entry x0.2.2.2.2.1 ((fun x => true), (fun x => (impl_NoteOk_1 x)))) = true then
 some ((), (false, ()))
 else
 if (decide (x0.1 = (1 : Int))) = true then
 if (impl_within x0.2.2.1 (-1 : Int) (4 : Int)) = true then
 if (decide (x0.2.2.2.1 = (0 : Int))) = true then
 if (decide (((length x0.2.2.2.2.1 : Nat) : Int) = (0 : Int))) = true then
 some ((), ((x0.2.2.2.2.2.1 == ([] : List UInt8)), ()))
 else
 some ((), (false, ()))
 else
 some ((), (false, ()))
 else
 some ((), (false, ()))
 else
 if (decide (x0.1 = (2 : Int))) = true then
 if (decide (x0.2.2.1 = (0 : Int))) = true then
 some ((), ((x0.2.2.2.2.2.1 == ([] : List UInt8)), ()))
 else
 some ((), (false, ()))
 else
 if (decide (x0.1 = (3 : Int))) = true then
 if (decide (x0.2.2.1 = (0 : Int))) = true then
 some ((), ((decide (((length x0.2.2.2.2.1 : Nat) : Int) = (0 : Int))), ()))
 else
 some ((), (false, ()))
 else
 some ((), (false, ()))
 else
 none
theorem eq (x0 : Note) (_ : wf x0) : raw x0 = some ((), (impl_NoteOk x0, ())) := by
 unfold raw impl_NoteOk NoteOk kindOk spec_l9List
 cases impl_within x0.2.1 0 300
 . simp
 cases impl_within x0.2.2.2.1 0 300
 . simp
 by_cases hl : (x0.2.2.2.2.1.length : Int) <= 40
 case neg =>
  have hl' : (40 : Int) < (x0.2.2.2.2.1.length : Int) := by omega
  have hl2 : ¬ x0.2.2.2.2.1.length <= 40 := by omega
  simp [hl', hl2]
 have hl' : ¬ (40 : Int) < (x0.2.2.2.2.1.length : Int) := by omega
 have hl2 : x0.2.2.2.2.1.length <= 40 := by omega
 by_cases hs : (x0.2.2.2.2.2.1.length : Int) <= 30000
 case neg =>
  have hs' : (30000 : Int) < (x0.2.2.2.2.2.1.length : Int) := by omega
  simp [hs, hs', hl']
 have hs' : ¬ (30000 : Int) < (x0.2.2.2.2.2.1.length : Int) := by omega
 have hpre : slices_ContainsFunc_Entry.pre x0.2.2.2.2.1 ((fun _ => true), (fun x => impl_NoteOk_1 x)) = true := by simp [slices_ContainsFunc_Entry.pre]
 have hany : slices_ContainsFunc_Entry x0.2.2.2.2.1 ((fun _ => true), (fun x => impl_NoteOk_1 x)) = !x0.2.2.2.2.1.all (eOk 300) := any_not (eOk 300) _
 simp only [hl', hs', hs, hl2, hpre, hany, decide_true, decide_false, Bool.not_true, Zj, if_false, if_true, Bool.true_and, Bool.and_true, Za]
 cases x0.2.2.2.2.1.all (eOk 300)
 . simp
 simp only [Bool.not_true, Zj, if_false, Bool.true_and]
 split
 . cases impl_within x0.2.2.1 (-1) 4 <;> simp only [Zj, if_false, if_true, Bool.false_and, Bool.true_and]
   split
   . rename_i h; simp only [h, decide_true, Bool.true_and]
     split
     . rename_i h; simp only [h, decide_true, Bool.true_and]
     . rename_i h; simp only [h, decide_false, Bool.false_and]
   . rename_i h; simp only [h, decide_false, Bool.false_and]
 split
 . split
   . rename_i h; simp only [h, decide_true, Bool.true_and]
   . rename_i h; simp only [h, decide_false, Bool.false_and]
 split
 . split
   . rename_i h; simp only [h, decide_true, Bool.true_and]
   . rename_i h; simp only [h, decide_false, Bool.false_and]
 . rfl
end impl_NoteOk
theorem within_hi {n lo hi : Int} (h : impl_within n lo hi = true) : lo <= n /\ n <= hi := by
 simpa [impl_within] using h
theorem ofInt_nat {w : Nat} {x : Int} (h0 : 0 <= x) (h1 : x.toNat < 2 ^ w) : (BitVec.ofInt w x).toNat = x.toNat := by
 rw [BitVec.toNat_ofInt]
 have : x % ((2 ^ w : Nat) : Int) = x := Int.emod_eq_of_lt h0 (by omega)
 rw [this]
theorem and127 {x : Int} (h0 : 0 <= x) (h1 : x <= 9223372036854775807) : intBits .and .i64 x 127 = x % 128 := by
 show wrap .i64 (((BitVec.ofInt 64 x) &&& (BitVec.ofInt 64 127)).toNat : Int) = _
 rw [BitVec.toNat_and, ofInt_nat h0 (by omega), ofInt_nat (by omega) (by decide)]
 have : x.toNat &&& Int.toNat 127 = x.toNat % 128 := Nat.and_two_pow_sub_one_eq_mod x.toNat 7
 rw [this]
 have e : ((x.toNat % 128 : Nat) : Int) = x % 128 := by omega
 rw [e, w64 (by omega) (by omega)]
theorem and127b {x : Int} (h0 : 0 <= x) (h1 : x <= 255) : intBits .and .u8 x 127 = x % 128 := by
 show wrap .u8 (((BitVec.ofInt 8 x) &&& (BitVec.ofInt 8 127)).toNat : Int) = _
 rw [BitVec.toNat_and, ofInt_nat h0 (by omega), ofInt_nat (by omega) (by decide)]
 have : x.toNat &&& Int.toNat 127 = x.toNat % 128 := Nat.and_two_pow_sub_one_eq_mod x.toNat 7
 rw [this]
 have e : ((x.toNat % 128 : Nat) : Int) = x % 128 := by omega
 rw [e, w8 (by omega) (by omega)]
theorem or128 {x : Int} (h0 : 0 <= x) (h1 : x < 128) : intBits .or .u8 x 128 = x + 128 := by
 show wrap .u8 (((BitVec.ofInt 8 x) ||| (BitVec.ofInt 8 128)).toNat : Int) = _
 rw [BitVec.toNat_or, ofInt_nat h0 (by omega), ofInt_nat (by omega) (by decide)]
 have : x.toNat ||| Int.toNat 128 = 128 * 1 + x.toNat := by
  rw [Nat.or_comm]
  exact (Nat.two_pow_add_eq_or_of_lt (i := 7) (b := x.toNat) (by omega) 1).symm
 rw [this]
 have e : ((128 * 1 + x.toNat : Nat) : Int) = x + 128 := by omega
 rw [e, w8 (by omega) (by omega)]
theorem or_shift {n d : Int} {k : Nat} (h0 : 0 <= n) (h1 : n < 128 ^ k) (h2 : 0 <= d) (h3 : d < 128) (hk : k <= 4) : intBits .or .i64 n (wrap .i64 (d * 2 ^ (7 * k))) = n + d * 128 ^ k := by
 have hp : (2 : Int) ^ (7 * k) = 128 ^ k := by rw [Int.pow_mul]; rfl
 have hpn : (128 : Int) ^ k <= 268435456 := by
  have : k = 0 \/ k = 1 \/ k = 2 \/ k = 3 \/ k = 4 := by omega
  rcases this with rfl | rfl | rfl | rfl | rfl <;> decide
 have hpos : (0 : Int) < 128 ^ k := Int.pow_pos (by decide)
 have hd : d * 128 ^ k <= 127 * 268435456 := Int.mul_le_mul (by omega) hpn (by omega) (by omega)
 have hd0 : 0 <= d * 128 ^ k := Int.mul_nonneg h2 (by omega)
 rw [hp, w64 (by omega) (by omega)]
 show wrap .i64 (((BitVec.ofInt 64 n) ||| (BitVec.ofInt 64 (d * 128 ^ k))).toNat : Int) = _
 rw [BitVec.toNat_or, ofInt_nat h0 (by omega), ofInt_nat hd0 (by omega)]
 have e0 : (d * 128 ^ k).toNat = 2 ^ (7 * k) * d.toNat := by
  have : d * 128 ^ k = ((2 ^ (7 * k) * d.toNat : Nat) : Int) := by
   rw [Int.natCast_mul, Int.natCast_pow, Int.toNat_of_nonneg h2, <- hp, Int.mul_comm]; rfl
  rw [this]; rfl
 have hn : n.toNat < 2 ^ (7 * k) := by
  have : (n.toNat : Int) < ((2 ^ (7 * k) : Nat) : Int) := by
   rw [Int.toNat_of_nonneg h0, Int.natCast_pow]
   show n < 2 ^ (7 * k)
   rw [hp]; exact h1
  omega
 rw [Nat.or_comm, e0, <- Nat.two_pow_add_eq_or_of_lt hn, <- e0]
 have e : (((d * 128 ^ k).toNat + n.toNat : Nat) : Int) = n + d * 128 ^ k := by omega
 rw [e, w64 (by omega) (by omega)]
theorem fdiv7 (x : Int) : Int.fdiv x (2 ^ min (Int.toNat (7 : Int)) (IntKind.bits .i64)) = x / 128 := by
 show Int.fdiv x 128 = _
 rw [Int.fdiv_eq_ediv_of_nonneg _ (by decide)]
def putI (n : Nat) : List Int := if n <= 127 then [] else ((n % 128 + 128 : Nat) : Int) :: putI (n / 128)
termination_by n
decreasing_by omega
def putZ (n : Nat) : Nat := if n <= 127 then n else putZ (n / 128)
termination_by n
decreasing_by omega
def putN (n : Nat) : List Int := putI n ++ [(putZ n : Int)]
def PutNum (n : Int) : List Int := if 0 <= n /\ n <= 2147483647 then putN n.toNat else []
abbrev spec_PutNum := PutNum
abbrev impl_PutNum := PutNum
theorem putZ_le (n : Nat) : putZ n <= 127 := by
 induction n using Nat.strongRecOn with
 | ind n ih =>
  rw [putZ]
  split
  . assumption
  . exact ih _ (by omega)
theorem putI_len : (k : Nat) -> {n : Nat} -> n < 128 ^ (k + 1) -> (putI n).length <= k
 | 0, n, h => by rw [putI, if_pos (by omega)]; simp
 | k + 1, n, h => by
  rw [putI]
  split
  . simp
  . rw [Zg]
    have := putI_len k (n := n / 128) (by rw [Nat.pow_succ] at h; omega)
    omega
theorem PutNum_len (n : Int) : (PutNum n).length <= 5 := by
 unfold PutNum
 split
 . rw [putN, Zf]
   have := putI_len 4 (n := n.toNat) (by omega)
   simpa using this
 . simp
abbrev PnS := Int × (List Int × Unit)
def pnPre : PnS -> Bool := fun s => decide (0 <= s.1) && (decide (s.1 <= 2147483647) && decide (s.2.1.length + s.1.toNat <= 2147483700))
def pnFn : PnS -> PnS := fun s => ((putZ s.1.toNat : Int), (s.2.1 ++ putI s.1.toNat, ()))
def pnMu : PnS -> Nat := fun s => s.1.toNat
theorem pn_next {n : Int} {out : List Int} (hp : pnPre (n, (out, ())) = true) (h : 127 < n) : Rounds pnPre pnMu pnFn (n, (out, ())) (some (.inl (n / 128, (out ++ [n % 128 + 128], ())))) := by
 simp only [pnPre, Zb, Za] at hp
 obtain ⟨h0, h1, h2⟩ := hp
 simp only [Rounds]
 refine ⟨?_, by simp only [pnMu]; omega, ?_⟩
 . simp only [pnPre, Zb, Za, Zf, Zg, Zh]
   omega
 . simp only [pnFn]
   have e : (n / 128).toNat = n.toNat / 128 := by omega
   have e2 : ((n.toNat % 128 + 128 : Nat) : Int) = n % 128 + 128 := by omega
   rw [e]
   conv => rhs; rw [putZ, if_neg (by omega), putI, if_neg (by omega), e2]
   simp
theorem pn_end {n : Int} {out : List Int} (hp : pnPre (n, (out, ())) = true) (h : ¬ 127 < n) : Rounds pnPre pnMu pnFn (n, (out, ())) (some (.inr (n, (out, ())))) := by
 simp only [pnPre, Zb, Za] at hp
 obtain ⟨h0, h1, h2⟩ := hp
 simp only [Rounds, pnFn]
 rw [putZ, if_pos (by omega), putI, if_pos (by omega), Int.toNat_of_nonneg h0, List.append_nil]
namespace spec_PutNum
def pre4 := pnPre
def fn4 := pnFn
def mu4 := pnMu
noncomputable def raw4 (x1 : Int) (x2 : (List Int)) : Option ((Int × zt12) ⊕ (Int × zt12)) :=
 if (decide ((127 : Int) < x1)) = true then
 if (!(decide ((128 : Int) = (0 : Int)))) = true then
 if (decide (length x2 + length ((wrap .u8 (wrap .i64 ((Int.tmod x1 (128 : Int)) + (128 : Int)))) :: ([] : List Int)) <= lim)) = true then
 if (!(decide ((128 : Int) = (0 : Int)))) = true then
 some (.inl ((wrap .i64 (Int.tdiv x1 (128 : Int))), ((List.append x2 ((wrap .u8 (wrap .i64 ((Int.tmod x1 (128 : Int)) + (128 : Int)))) :: ([] : List Int))), ())))
 else
 none
 else
 none
 else
 none
 else
 some (.inr (x1, (x2, ())))
abbrev wf (x0 : Int) : Prop := wfA [(.val (.int .i64) .f)] (x0, ())
noncomputable def raw (x0 : Int) : Option (Unit × zt12) :=
 if (!(impl_within x0 (0 : Int) (2147483647 : Int))) = true then
 some ((), (([] : List Int), ()))
 else
 if (spec_PutNum.pre4 (x0, (([] : List Int), ()))) = true then
 if (decide (length (spec_PutNum.fn4 (x0, (([] : List Int), ()))).2.1 + length ((wrap .u8 (spec_PutNum.fn4 (x0, (([] : List Int), ()))).1) :: ([] : List Int)) <= lim)) = true then
 some ((), ((List.append (spec_PutNum.fn4 (x0, (([] : List Int), ()))).2.1 ((wrap .u8 (spec_PutNum.fn4 (x0, (([] : List Int), ()))).1) :: ([] : List Int))), ()))
 else
 none
 else
 none
theorem ok4 (x1 : Int) (x2 : List Int) (hp : pre4 (x1, (x2, ())) = true) : Rounds pre4 mu4 fn4 (x1, (x2, ())) (raw4 x1 x2) := by
 have hp' := hp
 simp only [pre4, pnPre, Zb, Za] at hp'
 obtain ⟨h0, h1, h2⟩ := hp'
 unfold raw4
 by_cases h : 127 < x1
 . rw [Int.tmod_eq_emod_of_nonneg h0, Int.tdiv_eq_ediv_of_nonneg h0, w64 (n := x1 % 128 + 128) (by omega) (by omega), w8 (by omega) (by omega), w64 (n := x1 / 128) (by omega) (by omega)]
   rw [if_pos (by simp [h]), if_pos (by decide), if_pos (by simp only [Zg, Zh, Za, lim]; omega), if_pos (by decide)]
   exact pn_next hp h
 . rw [if_neg (by simp [h])]
   exact pn_end hp h
theorem eq (x0 : Int) (_ : wf x0) : raw x0 = some ((), (spec_PutNum x0, ())) := by
 unfold raw spec_PutNum PutNum impl_within
 by_cases h : 0 <= x0 /\ x0 <= 2147483647
 . have hl := putI_len 4 (n := x0.toNat) (by omega)
   have hz := putZ_le x0.toNat
   rw [if_neg (by simp [h]), if_pos (show pre4 _ = true by simp [pre4, pnPre]; omega)]
   have hf : fn4 (x0, (([] : List Int), ())) = ((putZ x0.toNat : Int), ([] ++ putI x0.toNat, ())) := rfl
   rw [hf, if_pos (by simp only [List.nil_append, Zg, Zh, Za, lim]; omega), if_pos h]
   simp only [List.nil_append, List.append_eq, putN]
   rw [w8 (by omega) (by omega)]
 . rw [if_pos (by simp only [Bool.not_eq_true', Bool.and_eq_false_iff, Zv]; omega), if_neg h]
end spec_PutNum
namespace impl_PutNum
def pre4 := pnPre
def fn4 := pnFn
def mu4 := pnMu
noncomputable def raw4 (x1 : Int) (x2 : (List Int)) : Option ((Int × zt12) ⊕ (Int × zt12)) :=
 if (decide ((127 : Int) < x1)) = true then
 if (decide (length x2 + length ((intBits .or .u8 (wrap .u8 (intBits .and .i64 x1 (127 : Int))) (128 : Int)) :: ([] : List Int)) <= lim)) = true then
 if (decide ((0 : Int) <= (7 : Int))) = true then
 some (.inl ((Int.fdiv x1 (2 ^ min (Int.toNat (7 : Int)) (IntKind.bits .i64))), ((List.append x2 ((intBits .or .u8 (wrap .u8 (intBits .and .i64 x1 (127 : Int))) (128 : Int)) :: ([] : List Int))), ())))
 else
 none
 else
 none
 else
 some (.inr (x1, (x2, ())))
abbrev wf (x0 : Int) : Prop := wfA [(.val (.int .i64) .f)] (x0, ())
noncomputable def raw (x0 : Int) : Option (Unit × zt12) :=
 if (!(impl_within x0 (0 : Int) (2147483647 : Int))) = true then
 some ((), (([] : List Int), ()))
 else
 if (impl_PutNum.pre4 (x0, (([] : List Int), ()))) = true then
 if (decide (length (impl_PutNum.fn4 (x0, (([] : List Int), ()))).2.1 + length ((wrap .u8 (impl_PutNum.fn4 (x0, (([] : List Int), ()))).1) :: ([] : List Int)) <= lim)) = true then
 some ((), ((List.append (impl_PutNum.fn4 (x0, (([] : List Int), ()))).2.1 ((wrap .u8 (impl_PutNum.fn4 (x0, (([] : List Int), ()))).1) :: ([] : List Int))), ()))
 else
 none
 else
 none
theorem ok4 (x1 : Int) (x2 : List Int) (hp : pre4 (x1, (x2, ())) = true) : Rounds pre4 mu4 fn4 (x1, (x2, ())) (raw4 x1 x2) := by
 have hp' := hp
 simp only [pre4, pnPre, Zb, Za] at hp'
 obtain ⟨h0, h1, h2⟩ := hp'
 unfold raw4
 by_cases h : 127 < x1
 . rw [and127 h0 (by omega), w8 (n := x1 % 128) (by omega) (by omega), or128 (by omega) (by omega), fdiv7]
   rw [if_pos (by simp [h]), if_pos (by simp only [Zg, Zh, Za, lim]; omega), if_pos (by decide)]
   exact pn_next hp h
 . rw [if_neg (by simp [h])]
   exact pn_end hp h
theorem eq (x0 : Int) (_ : wf x0) : raw x0 = some ((), (impl_PutNum x0, ())) := by
 unfold raw impl_PutNum PutNum impl_within
 by_cases h : 0 <= x0 /\ x0 <= 2147483647
 . have hl := putI_len 4 (n := x0.toNat) (by omega)
   have hz := putZ_le x0.toNat
   rw [if_neg (by simp [h]), if_pos (show pre4 _ = true by simp [pre4, pnPre]; omega)]
   have hf : fn4 (x0, (([] : List Int), ())) = ((putZ x0.toNat : Int), ([] ++ putI x0.toNat, ())) := rfl
   rw [hf, if_pos (by simp only [List.nil_append, Zg, Zh, Za, lim]; omega), if_pos h]
   simp only [List.nil_append, List.append_eq, putN]
   rw [w8 (by omega) (by omega)]
 . rw [if_pos (by simp only [Bool.not_eq_true', Bool.and_eq_false_iff, Zv]; omega), if_neg h]
end impl_PutNum
def PutText (s : List UInt8) : List Int := PutNum s.length ++ bytesOf s
abbrev spec_PutText := PutText
abbrev impl_PutText := PutText
def txtPre (s : List UInt8) : Bool := decide (s.length <= 1073741824)
theorem PutText_len (s : List UInt8) : (PutText s).length <= s.length + 5 := by
 have := PutNum_len s.length
 simp only [PutText, Zf, bytesOf, List.length_map]; omega
namespace spec_PutText
def pre := txtPre
abbrev wf (x0 : (List UInt8)) : Prop := wfA [(.val .str .f)] (x0, ())
noncomputable def raw (x0 : (List UInt8)) : Option (Unit × zt12) :=
 if (decide (length x0 <= lim)) = true then
 letB (PutNum ((length x0 : Nat) : Int)) fun v1 =>
 if (decide (length v1 + length (bytesOf x0) <= lim)) = true then
 some ((), ((List.append v1 (bytesOf x0)), ()))
 else
 none
 else
 none
theorem eq (x0 : List UInt8) (_ : wf x0) (hp : pre x0 = true) : raw x0 = some ((), (spec_PutText x0, ())) := by
 have hl := PutNum_len x0.length
 simp only [pre, txtPre, Za] at hp
 unfold raw
 simp only [letB]
 rw [if_pos (by simp only [Za, lim]; omega), if_pos (by simp only [bytesOf, List.length_map, Za, lim]; omega)]
 rfl
end spec_PutText
namespace impl_PutText
def pre := txtPre
abbrev wf (x0 : (List UInt8)) : Prop := wfA [(.val .str .f)] (x0, ())
noncomputable def raw (x0 : (List UInt8)) : Option (Unit × zt12) :=
 letB (PutNum ((length x0 : Nat) : Int)) fun v1 =>
 if (decide (length v1 + length (bytesOf x0) <= lim)) = true then
 some ((), ((List.append v1 (bytesOf x0)), ()))
 else
 none
theorem eq (x0 : List UInt8) (_ : wf x0) (hp : pre x0 = true) : raw x0 = some ((), (impl_PutText x0, ())) := by
 have hl := PutNum_len x0.length
 simp only [pre, txtPre, Za] at hp
 unfold raw
 simp only [letB]
 rw [if_pos (by simp only [bytesOf, List.length_map, Za, lim]; omega)]
 rfl
end impl_PutText
def nums (xs : List Int) : List Int := xs.flatMap PutNum
abbrev spec_l7Nums := nums
abbrev impl_nums := nums
theorem nums_len : (xs : List Int) -> (nums xs).length <= 5 * xs.length
 | [] => by simp [nums]
 | a :: r => by
  have := PutNum_len a
  have := nums_len r
  simp only [nums, List.flatMap_cons, Zf, Zg] at *
  omega
def numsPre (xs : List Int) : Bool := small xs
namespace spec_l7Nums
def pre := numsPre
abbrev S := List Int × (Int × (List Int × Unit))
def pre3 : S -> Bool := fun s => small s.1 && (decide (0 <= s.2.1) && (decide (s.2.1.toNat <= s.1.length) && decide (s.2.2.1.length <= 5 * s.2.1.toNat)))
def fn3 : S -> List Int × Unit := fun s => (s.2.2.1 ++ nums (s.1.drop s.2.1.toNat), ())
def mu3 : S -> Nat := fun s => s.1.length - s.2.1.toNat
noncomputable def raw3 (x1 : (List Int)) (x2 : Int) (x3 : (List Int)) : Option (((List Int) × (Int × zt12)) ⊕ zt12) :=
 if (decide (x2 < ((length x1 : Nat) : Int))) = true then
 if (decide ((0 : Int) <= x2)) = true then
 if (decide (x2 < ((length x1 : Nat) : Int))) = true then
 if (decide (length x3 + length (PutNum (List.getD x1 (Int.toNat x2) (0 : Int))) <= lim)) = true then
 some (.inl (x1, ((wrap .i64 (x2 + (1 : Int))), ((List.append x3 (PutNum (List.getD x1 (Int.toNat x2) (0 : Int)))), ()))))
 else
 none
 else
 none
 else
 none
 else
 some (.inr (x3, ()))
abbrev wf (x0 : (List Int)) : Prop := wfA [(.val (.sl 0 (.int .i64)) .f)] (x0, ())
noncomputable def raw (x0 : (List Int)) : Option (Unit × zt12) :=
 if (spec_l7Nums.pre3 (x0, ((0 : Int), (([] : List Int), ())))) = true then
 some ((), (spec_l7Nums.fn3 (x0, ((0 : Int), (([] : List Int), ())))))
 else
 none
theorem ok3 (x1 : List Int) (x2 : Int) (x3 : List Int) (hp : pre3 (x1, (x2, (x3, ()))) = true) : Rounds pre3 mu3 fn3 (x1, (x2, (x3, ()))) (raw3 x1 x2 x3) := by
 simp only [pre3, Zb, Za, small_iff] at hp
 obtain ⟨h1, h2, h3, h4⟩ := hp
 unfold raw3
 by_cases hlt : x2 < (x1.length : Int)
 . have hn : x2.toNat < x1.length := by omega
   have hl := PutNum_len (x1.getD x2.toNat 0)
   rw [if_pos (by simp [hlt]), if_pos (by simp [h2]), if_pos (by simp [hlt]), if_pos (by simp only [Za, lim]; omega), w64 (by omega) (by omega)]
   simp only [Rounds]
   refine ⟨?_, by simp only [mu3]; omega, ?_⟩
   . simp only [pre3, Zb, Za, small_iff, List.append_eq, Zf]; omega
   . simp only [fn3, show (x2 + 1).toNat = x2.toNat + 1 by omega]
     rw [Zn hn, getD_get hn]
     simp only [nums, List.flatMap_cons, List.append_eq, Zk]
 . rw [if_neg (by simp [hlt])]
   simp only [Rounds, fn3]
   rw [Zt (by omega)]
   simp [nums]
theorem eq (x0 : List Int) (_ : wf x0) (hp : pre x0 = true) : raw x0 = some ((), (spec_l7Nums x0, ())) := by
 unfold raw
 rw [if_pos (show pre3 _ = true by simp [pre3, show small x0 = true from hp])]
 simp [fn3]
end spec_l7Nums
namespace impl_nums
def pre := numsPre
abbrev S := List Int × (Int × (Int × (List Int × Unit)))
def pre3 : S -> Bool := fun s => small s.1 && (decide (s.2.1 = (s.1.length : Int)) && (decide (0 <= s.2.2.1) && (decide (s.2.2.1.toNat <= s.1.length) && decide (s.2.2.2.1.length <= 5 * s.2.2.1.toNat))))
def fn3 : S -> List Int × Unit := fun s => (s.2.2.2.1 ++ nums (s.1.drop s.2.2.1.toNat), ())
def mu3 : S -> Nat := fun s => s.1.length - s.2.2.1.toNat
noncomputable def raw3 (x1 : (List Int)) (x2 : Int) (x3 : Int) (x4 : (List Int)) : Option (((List Int) × (Int × (Int × zt12))) ⊕ zt12) :=
 if (decide (x3 < x2)) = true then
 if (decide ((0 : Int) <= x3)) = true then
 if (decide (x3 < ((length x1 : Nat) : Int))) = true then
 if (decide (length x4 + length (PutNum (List.getD x1 (Int.toNat x3) (0 : Int))) <= lim)) = true then
 some (.inl (x1, (x2, ((wrap .i64 (x3 + (1 : Int))), ((List.append x4 (PutNum (List.getD x1 (Int.toNat x3) (0 : Int)))), ())))))
 else
 none
 else
 none
 else
 none
 else
 some (.inr (x4, ()))
abbrev wf (x0 : (List Int)) : Prop := wfA [(.val (.sl 0 (.int .i64)) .f)] (x0, ())
noncomputable def raw (x0 : (List Int)) : Option (Unit × zt12) :=
 if (impl_nums.pre3 (x0, (((length x0 : Nat) : Int), ((0 : Int), (([] : List Int), ()))))) = true then
 some ((), (impl_nums.fn3 (x0, (((length x0 : Nat) : Int), ((0 : Int), (([] : List Int), ()))))))
 else
 none
theorem ok3 (x1 : List Int) (x2 x3 : Int) (x4 : List Int) (hp : pre3 (x1, (x2, (x3, (x4, ())))) = true) : Rounds pre3 mu3 fn3 (x1, (x2, (x3, (x4, ())))) (raw3 x1 x2 x3 x4) := by
 simp only [pre3, Zb, Za, small_iff] at hp
 obtain ⟨h1, rfl, h2, h3, h4⟩ := hp
 unfold raw3
 by_cases hlt : x3 < (x1.length : Int)
 . have hn : x3.toNat < x1.length := by omega
   have hl := PutNum_len (x1.getD x3.toNat 0)
   rw [if_pos (by simp [hlt]), if_pos (by simp [h2]), if_pos (by simp [hlt]), if_pos (by simp only [Za, lim]; omega), w64 (n := x3 + 1) (by omega) (by omega)]
   simp only [Rounds]
   refine ⟨?_, by simp only [mu3]; omega, ?_⟩
   . simp only [pre3, Zb, Za, small_iff, List.append_eq, Zf, true_and]
     refine ⟨h1, by omega, by omega, by omega⟩
   . simp only [fn3, show (x3 + 1).toNat = x3.toNat + 1 by omega]
     rw [Zn hn, getD_get hn]
     simp only [nums, List.flatMap_cons, List.append_eq, Zk]
 . rw [if_neg (by simp [hlt])]
   simp only [Rounds, fn3]
   rw [Zt (by omega)]
   simp [nums]
theorem eq (x0 : List Int) (_ : wf x0) (hp : pre x0 = true) : raw x0 = some ((), (impl_nums x0, ())) := by
 unfold raw
 rw [if_pos (show pre3 _ = true by simp [pre3, show small x0 = true from hp])]
 simp [fn3]
end impl_nums
def slices_Grow_byte (_ : Int) : List Int := []
namespace slices_Grow_byte
def pre (n : Int) : Bool := decide (0 <= n) && decide (n <= 4294967296)
abbrev wf (x0 : Int) : Prop := wfA [(.nil 5 (.int .u8)), (.val (.int .i64) .f)] (x0, ())
noncomputable def raw (x0 : Int) : Option (Unit × zt12) :=
 if (decide (x0 < (0 : Int))) = true then
 none
 else
 if (decide ((0 : Int) < (wrap .i64 (x0 - (wrap .i64 ((0 : Int) - (0 : Int))))))) = true then
 if (decide ((0 : Int) = (0 : Int))) = true then
 if (decide ((0 : Int) = (0 : Int))) = true then
 if (decide ((0 : Int) <= (wrap .i64 (x0 - (wrap .i64 ((0 : Int) - (0 : Int))))))) = true then
 if (decide ((wrap .i64 (x0 - (wrap .i64 ((0 : Int) - (0 : Int))))) <= (4294967296 : Int))) = true then
 if (decide ((0 : Int) <= (0 : Int))) = true then
 if (decide ((0 : Int) <= (0 : Int))) = true then
 if (decide ((0 : Int) <= ((length (List.replicate (Int.toNat (wrap .i64 (x0 - (wrap .i64 ((0 : Int) - (0 : Int)))))) (0 : Int)) : Nat) : Int))) = true then
 some ((), ((dropTake (Int.toNat (0 : Int)) (Int.toNat (0 : Int)) (List.replicate (Int.toNat (wrap .i64 (x0 - (wrap .i64 ((0 : Int) - (0 : Int)))))) (0 : Int))), ()))
 else
 none
 else
 none
 else
 none
 else
 none
 else
 none
 else
 none
 else
 none
 else
 some ((), (([] : List Int), ()))
theorem eq (x0 : Int) (_ : wf x0) (hp : pre x0 = true) : raw x0 = some ((), (slices_Grow_byte x0, ())) := by
 simp only [pre, Zb, Za] at hp
 have h0 : wrap .i64 ((0 : Int) - 0) = 0 := by decide
 unfold raw
 rw [h0, w64 (n := x0 - 0) (by omega) (by omega)]
 have hn : ¬ x0 < 0 := by omega
 by_cases h : 0 < x0
 . have h1 : 0 <= x0 := by omega
   simp [hn, h, h1, hp.2, dropTake, slices_Grow_byte]
   omega
 . simp [hn, h, slices_Grow_byte]
end slices_Grow_byte
def slices_Concat_byte (xs : List (List Int)) : List Int := xs.flatten
theorem flatten_cons_len (xs : List (List Int)) (i : Nat) (h : i < xs.length) : (xs.drop i).flatten.length = xs[i].length + (xs.drop (i + 1)).flatten.length := by
 rw [Zn h, List.flatten_cons, Zf]
namespace slices_Concat_byte
def pre (xs : List (List Int)) : Bool := decide (xs.flatten.length <= 4294967296) && small xs
abbrev S3 := List (List Int) × (Int × (List (List Int) × (Int × (Int × Unit))))
def pre3 : S3 -> Bool := fun s => small s.2.2.1 && (decide (s.1 = s.2.2.1) && (decide (s.2.2.2.1 = (s.2.2.1.length : Int)) && (decide (0 <= s.2.2.2.2.1) && (decide (s.2.2.2.2.1.toNat <= s.2.2.1.length) && (decide (0 <= s.2.1) && decide (s.2.1 + ((s.2.2.1.drop s.2.2.2.2.1.toNat).flatten.length : Int) <= 4294967296))))))
def fn3 : S3 -> List (List Int) × (Int × Unit) := fun s => (s.1, (s.2.1 + ((s.2.2.1.drop s.2.2.2.2.1.toNat).flatten.length : Int), ()))
def mu3 : S3 -> Nat := fun s => s.2.2.1.length - s.2.2.2.2.1.toNat
abbrev S11 := List (List Int) × (Int × (Int × (List Int × Unit)))
def pre11 : S11 -> Bool := fun s => small s.1 && (decide (s.2.1 = (s.1.length : Int)) && (decide (0 <= s.2.2.1) && (decide (s.2.2.1.toNat <= s.1.length) && decide (s.2.2.2.1.length + (s.1.drop s.2.2.1.toNat).flatten.length <= 4294967296))))
def fn11 : S11 -> List Int × Unit := fun s => (s.2.2.2.1 ++ (s.1.drop s.2.2.1.toNat).flatten, ())
def mu11 : S11 -> Nat := fun s => s.1.length - s.2.2.1.toNat
noncomputable def raw3 (x1 : (List (List Int))) (x2 : Int) (x3 : (List (List Int))) (x4 : Int) (x5 : Int) : Option (((List (List Int)) × (Int × ((List (List Int)) × Mark))) ⊕ ((List (List Int)) × (Int × Unit))) :=
 if (decide (x5 < x4)) = true then
 if (decide ((0 : Int) <= x5)) = true then
 if (decide (x5 < ((length x3 : Nat) : Int))) = true then
 if (decide ((wrap .i64 (x2 + ((length (List.getD x3 (Int.toNat x5) ([] : List Int)) : Nat) : Int))) < (0 : Int))) = true then
 none
 else
 some (.inl (x1, ((wrap .i64 (x2 + ((length (List.getD x3 (Int.toNat x5) ([] : List Int)) : Nat) : Int))), (x3, (x4, ((wrap .i64 (x5 + (1 : Int))), ()))))))
 else
 none
 else
 none
 else
 some (.inr (x1, (x2, ())))
noncomputable def raw11 (x1 : (List (List Int))) (x2 : Int) (x3 : Int) (x4 : (List Int)) : Option (((List (List Int)) × (Int × (Int × zt12))) ⊕ zt12) :=
 if (decide (x3 < x2)) = true then
 if (decide ((0 : Int) <= x3)) = true then
 if (decide (x3 < ((length x1 : Nat) : Int))) = true then
 if (decide (length x4 + length (List.getD x1 (Int.toNat x3) ([] : List Int)) <= lim)) = true then
 some (.inl (x1, (x2, ((wrap .i64 (x3 + (1 : Int))), ((List.append x4 (List.getD x1 (Int.toNat x3) ([] : List Int))), ())))))
 else
 none
 else
 none
 else
 none
 else
 some (.inr (x4, ()))
abbrev wf (x0 : (List (List Int))) : Prop := wfA [(.val (.sl 0 zk20) .f)] (x0, ())
noncomputable def raw (x0 : (List (List Int))) : Option (Unit × zt12) :=
 if (slices_Concat_byte.pre3 (x0, ((0 : Int), (x0, (((length x0 : Nat) : Int), ((0 : Int), ())))))) = true then
 letB (slices_Concat_byte.fn3 (x0, ((0 : Int), (x0, (((length x0 : Nat) : Int), ((0 : Int), ())))))) fun v1 =>
 if (slices_Grow_byte.pre v1.2.1) = true then
 letB (slices_Grow_byte v1.2.1) fun v2 =>
 if (slices_Concat_byte.pre11 (v1.1, (((length v1.1 : Nat) : Int), ((0 : Int), (v2, ()))))) = true then
 letB (slices_Concat_byte.fn11 (v1.1, (((length v1.1 : Nat) : Int), ((0 : Int), (v2, ()))))) fun v3 =>
 some ((), v3)
 else
 none
 else
 none
 else
 none
theorem ok3 (x1 : List (List Int)) (x2 : Int) (x3 : List (List Int)) (x4 x5 : Int) (hp : pre3 (x1, (x2, (x3, (x4, (x5, ()))))) = true) : Rounds pre3 mu3 fn3 (x1, (x2, (x3, (x4, (x5, ()))))) (raw3 x1 x2 x3 x4 x5) := by
 simp only [pre3, Zb, Za, small_iff] at hp
 obtain ⟨h1, rfl, rfl, h2, h3, h4, h5⟩ := hp
 unfold raw3
 by_cases hlt : x5 < (x1.length : Int)
 . have hn : x5.toNat < x1.length := by omega
   have hc := flatten_cons_len x1 x5.toNat hn
   rw [getD_get hn, if_pos (by simp [hlt]), if_pos (by simp [h2]), if_pos (by simp [hlt]), w64 (n := x2 + _) (by omega) (by omega), if_neg (by simp only [Za]; omega), w64 (by omega) (by omega)]
   simp only [Rounds]
   refine ⟨?_, by simp only [mu3]; omega, ?_⟩
   . simp only [pre3, Zb, Za, small_iff, show (x5 + 1).toNat = x5.toNat + 1 by omega]
     refine ⟨h1, trivial, trivial, by omega, by omega, by omega, by omega⟩
   . simp only [fn3, show (x5 + 1).toNat = x5.toNat + 1 by omega, hc]
     refine Prod.ext rfl (Prod.ext ?_ rfl)
     show _ = _
     push_cast; omega
 . rw [if_neg (by simp [hlt])]
   simp only [Rounds, fn3]
   rw [Zt (by omega)]
   simp
theorem ok11 (x1 : List (List Int)) (x2 x3 : Int) (x4 : List Int) (hp : pre11 (x1, (x2, (x3, (x4, ())))) = true) : Rounds pre11 mu11 fn11 (x1, (x2, (x3, (x4, ())))) (raw11 x1 x2 x3 x4) := by
 simp only [pre11, Zb, Za, small_iff] at hp
 obtain ⟨h1, rfl, h2, h3, h4⟩ := hp
 unfold raw11
 by_cases hlt : x3 < (x1.length : Int)
 . have hn : x3.toNat < x1.length := by omega
   have hc := flatten_cons_len x1 x3.toNat hn
   rw [getD_get hn, if_pos (by simp [hlt]), if_pos (by simp [h2]), if_pos (by simp [hlt]), if_pos (by simp only [Za, lim]; omega), w64 (by omega) (by omega)]
   simp only [Rounds]
   refine ⟨?_, by simp only [mu11]; omega, ?_⟩
   . simp only [pre11, Zb, Za, small_iff, List.append_eq, Zf, show (x3 + 1).toNat = x3.toNat + 1 by omega]
     refine ⟨h1, trivial, by omega, by omega, by omega⟩
   . simp only [fn11, show (x3 + 1).toNat = x3.toNat + 1 by omega]
     rw [Zn hn]
     simp only [List.flatten_cons, List.append_eq, Zk]
 . rw [if_neg (by simp [hlt])]
   simp only [Rounds, fn11]
   rw [Zt (by omega)]
   simp
theorem eq (x0 : List (List Int)) (_ : wf x0) (hp : pre x0 = true) : raw x0 = some ((), (slices_Concat_byte x0, ())) := by
 simp only [pre, Zb, Za] at hp
 obtain ⟨h1, h2⟩ := hp
 unfold raw
 have hf : fn3 (x0, ((0 : Int), (x0, (((x0.length : Nat) : Int), ((0 : Int), ()))))) = (x0, ((x0.flatten.length : Int), ())) := by simp [fn3]
 rw [if_pos (show pre3 _ = true by
  simp only [pre3, Zb, Za, Int.toNat_zero, List.drop_zero]
  exact ⟨h2, trivial, trivial, by omega, by omega, by omega, by omega⟩), hf]
 simp only [letB]
 rw [if_pos (show slices_Grow_byte.pre _ = true by simp only [slices_Grow_byte.pre, Zb, Za]; omega), if_pos (show pre11 _ = true by
  simp only [pre11, Zb, Za, Int.toNat_zero, List.drop_zero, slices_Grow_byte, Zh]
  exact ⟨h2, trivial, by omega, by omega, by omega⟩)]
 simp [fn11, slices_Grow_byte, slices_Concat_byte]
end slices_Concat_byte
def sumF (s : Int × Int) (a : Int) : Int × Int :=
 (Int.tmod (wrap .i64 (s.1 + wrap .i64 a)) 65521, Int.tmod (wrap .i64 (s.2 + Int.tmod (wrap .i64 (s.1 + wrap .i64 a)) 65521)) 65521)
def SumOf (b : List Int) : Int := wrap .i64 (wrap .i64 ((b.foldl sumF (1, 0)).2 * 65536) + (b.foldl sumF (1, 0)).1)
abbrev spec_SumOf := SumOf
abbrev impl_SumOf := SumOf
namespace spec_SumOf
abbrev S := List Int × (Int × (Int × (Int × Unit)))
def pre3 : S -> Bool := fun s => decide (s.1.length <= maxLen) && (decide (0 <= s.2.2.2.1) && decide (s.2.2.2.1.toNat <= s.1.length))
def fn3 : S -> Int × (Int × Unit) := fun s => (((s.1.drop s.2.2.2.1.toNat).foldl sumF (s.2.1, s.2.2.1)).1, (((s.1.drop s.2.2.2.1.toNat).foldl sumF (s.2.1, s.2.2.1)).2, ()))
def mu3 : S -> Nat := fun s => s.1.length - s.2.2.2.1.toNat
noncomputable def raw3 (x1 : (List Int)) (x2 : Int) (x3 : Int) (x4 : Int) : Option (((List Int) × (Int × Mark)) ⊕ Mark) :=
 if (decide (x4 < ((length x1 : Nat) : Int))) = true then
 if (decide ((0 : Int) <= x4)) = true then
 if (decide (x4 < ((length x1 : Nat) : Int))) = true then
 if (!(decide ((65521 : Int) = (0 : Int)))) = true then
 if (!(decide ((65521 : Int) = (0 : Int)))) = true then
 some (.inl (x1, ((Int.tmod (wrap .i64 (x2 + (wrap .i64 (List.getD x1 (Int.toNat x4) (0 : Int))))) (65521 : Int)), ((Int.tmod (wrap .i64 (x3 + (Int.tmod (wrap .i64 (x2 + (wrap .i64 (List.getD x1 (Int.toNat x4) (0 : Int))))) (65521 : Int)))) (65521 : Int)), ((wrap .i64 (x4 + (1 : Int))), ())))))
 else
 none
 else
 none
 else
 none
 else
 none
 else
 some (.inr (x2, (x3, ())))
abbrev wf (x0 : (List Int)) : Prop := wfA [(.val zk20 .f)] (x0, ())
noncomputable def raw (x0 : (List Int)) : Option (Unit × (Int × Unit)) :=
 if (spec_SumOf.pre3 (x0, ((1 : Int), zd28))) = true then
 some ((), ((wrap .i64 ((wrap .i64 ((spec_SumOf.fn3 (x0, ((1 : Int), zd28))).2.1 * (65536 : Int))) + (spec_SumOf.fn3 (x0, ((1 : Int), zd28))).1)), ()))
 else
 none
theorem ok3 (x1 : List Int) (x2 x3 x4 : Int) (hp : pre3 (x1, (x2, (x3, (x4, ())))) = true) : Rounds pre3 mu3 fn3 (x1, (x2, (x3, (x4, ())))) (raw3 x1 x2 x3 x4) := by
 simp only [pre3, Zb, Za] at hp
 obtain ⟨h1, h2, h3⟩ := hp
 have hM := maxLen_eq
 unfold raw3
 by_cases hlt : x4 < (x1.length : Int)
 . have hn : x4.toNat < x1.length := by omega
   have e1 := Zn hn
   rw [if_pos (by simp [hlt]), if_pos (by simp [h2]), if_pos (by simp [hlt]), if_pos (by decide), if_pos (by decide), getD_get hn, w64 (n := x4 + 1) (by omega) (by omega)]
   simp only [Rounds]
   refine ⟨?_, by simp only [mu3]; omega, ?_⟩
   . simp only [pre3, Zb, Za]; omega
   . simp only [fn3, show (x4 + 1).toNat = x4.toNat + 1 by omega, e1, List.foldl_cons, sumF]
 . rw [if_neg (by simp [hlt])]
   simp only [Rounds, fn3]
   rw [Zt (by omega)]
   rfl
theorem eq (x0 : List Int) (hw : wf x0) : raw x0 = some ((), (spec_SumOf x0, ())) := by
 have h1 : x0.length <= maxLen := hw.1.1
 unfold raw
 rw [if_pos (show pre3 _ = true by simp [pre3, h1])]
 rfl
end spec_SumOf
namespace impl_SumOf
abbrev S := Int × (Int × (List Int × (Int × (Int × Unit))))
def pre3 : S -> Bool := fun s => decide (s.2.2.1.length <= maxLen) && (decide (s.2.2.2.1 = (s.2.2.1.length : Int)) && (decide (0 <= s.2.2.2.2.1) && decide (s.2.2.2.2.1.toNat <= s.2.2.1.length)))
def fn3 : S -> Int × (Int × Unit) := fun s => (((s.2.2.1.drop s.2.2.2.2.1.toNat).foldl sumF (s.1, s.2.1)).1, (((s.2.2.1.drop s.2.2.2.2.1.toNat).foldl sumF (s.1, s.2.1)).2, ()))
def mu3 : S -> Nat := fun s => s.2.2.1.length - s.2.2.2.2.1.toNat
noncomputable def raw3 (x1 : Int) (x2 : Int) (x3 : (List Int)) (x4 : Int) (x5 : Int) : Option ((Int × (Int × zt11)) ⊕ Mark) :=
 if (decide (x5 < x4)) = true then
 if (decide ((0 : Int) <= x5)) = true then
 if (decide (x5 < ((length x3 : Nat) : Int))) = true then
 if (!(decide ((65521 : Int) = (0 : Int)))) = true then
 if (!(decide ((65521 : Int) = (0 : Int)))) = true then
 some (.inl ((Int.tmod (wrap .i64 (x1 + (wrap .i64 (List.getD x3 (Int.toNat x5) (0 : Int))))) (65521 : Int)), ((Int.tmod (wrap .i64 (x2 + (Int.tmod (wrap .i64 (x1 + (wrap .i64 (List.getD x3 (Int.toNat x5) (0 : Int))))) (65521 : Int)))) (65521 : Int)), (x3, (x4, ((wrap .i64 (x5 + (1 : Int))), ()))))))
 else
 none
 else
 none
 else
 none
 else
 none
 else
 some (.inr (x1, (x2, ())))
abbrev wf (x0 : (List Int)) : Prop := wfA [(.val zk20 .f)] (x0, ())
noncomputable def raw (x0 : (List Int)) : Option (Unit × (Int × Unit)) :=
 if (impl_SumOf.pre3 ((1 : Int), ((0 : Int), (x0, (((length x0 : Nat) : Int), ((0 : Int), ())))))) = true then
 some ((), ((wrap .i64 ((wrap .i64 ((impl_SumOf.fn3 ((1 : Int), ((0 : Int), (x0, (((length x0 : Nat) : Int), ((0 : Int), ())))))).2.1 * (65536 : Int))) + (impl_SumOf.fn3 ((1 : Int), ((0 : Int), (x0, (((length x0 : Nat) : Int), ((0 : Int), ())))))).1)), ()))
 else
 none
theorem ok3 (x1 x2 : Int) (x3 : List Int) (x4 x5 : Int) (hp : pre3 (x1, (x2, (x3, (x4, (x5, ()))))) = true) : Rounds pre3 mu3 fn3 (x1, (x2, (x3, (x4, (x5, ()))))) (raw3 x1 x2 x3 x4 x5) := by
 simp only [pre3, Zb, Za] at hp
 obtain ⟨h1, rfl, h2, h3⟩ := hp
 have hM := maxLen_eq
 unfold raw3
 by_cases hlt : x5 < (x3.length : Int)
 . have hn : x5.toNat < x3.length := by omega
   have e1 := Zn hn
   rw [if_pos (by simp [hlt]), if_pos (by simp [h2]), if_pos (by simp [hlt]), if_pos (by decide), if_pos (by decide), getD_get hn, w64 (n := x5 + 1) (by omega) (by omega)]
   simp only [Rounds]
   refine ⟨?_, by simp only [mu3]; omega, ?_⟩
   . simp only [pre3, Zb, Za]; exact ⟨h1, trivial, by omega, by omega⟩
   . simp only [fn3, show (x5 + 1).toNat = x5.toNat + 1 by omega, e1, List.foldl_cons, sumF]
 . rw [if_neg (by simp [hlt])]
   simp only [Rounds, fn3]
   rw [Zt (by omega)]
   rfl
theorem eq (x0 : List Int) (hw : wf x0) : raw x0 = some ((), (impl_SumOf x0, ())) := by
 have h1 : x0.length <= maxLen := hw.1.1
 unfold raw
 rw [if_pos (show pre3 _ = true by simp [pre3, h1])]
 rfl
end impl_SumOf
def sum4 (s : Int) : List Int :=
 [wrap .u8 s, wrap .u8 (Int.fdiv s (2 ^ min (Int.toNat (8 : Int)) (IntKind.bits .i64))), wrap .u8 (Int.fdiv s (2 ^ min (Int.toNat (16 : Int)) (IntKind.bits .i64))), wrap .u8 (Int.fdiv s (2 ^ min (Int.toNat (24 : Int)) (IntKind.bits .i64)))]
def spec_l9Sum (b : List Int) : List Int := sum4 (SumOf b)
namespace spec_l9Sum
abbrev wf (x0 : (List Int)) : Prop := wfA [(.val zk20 .f)] (x0, ())
noncomputable def raw (x0 : (List Int)) : Option (Unit × zt12) :=
 if (decide ((0 : Int) <= (8 : Int))) = true then
 if (decide ((0 : Int) <= (16 : Int))) = true then
 if (decide ((0 : Int) <= (24 : Int))) = true then
 some ((), (((wrap .u8 (SumOf x0)) :: ((wrap .u8 (Int.fdiv (SumOf x0) (2 ^ min (Int.toNat (8 : Int)) (IntKind.bits .i64)))) :: ((wrap .u8 (Int.fdiv (SumOf x0) (2 ^ min (Int.toNat (16 : Int)) (IntKind.bits .i64)))) :: ((wrap .u8 (Int.fdiv (SumOf x0) (2 ^ min (Int.toNat (24 : Int)) (IntKind.bits .i64)))) :: ([] : List Int))))), ()))
 else
 none
 else
 none
 else
 none
theorem eq (x0 : List Int) (_ : wf x0) : raw x0 = some ((), (spec_l9Sum x0, ())) := by
 unfold raw
 rw [if_pos (by decide), if_pos (by decide), if_pos (by decide)]
 rfl
end spec_l9Sum
def isBytes (b : List Int) : Bool := b.all fun x => decide (0 <= x) && decide (x <= 255)
theorem isBytes_get {b : List Int} (h : isBytes b = true) {i : Nat} (hi : i < b.length) : 0 <= b[i] /\ b[i] <= 255 := by
 have := Zu.1 h _ (List.getElem_mem hi)
 simpa using this
theorem isBytes_of {b : List Int} (h : ∀ (i : Nat) (x : Int), b[i]? = some x -> inK .u8 x) : isBytes b = true := by
 refine Zu.2 fun x hx => ?_
 obtain ⟨i, hi, rfl⟩ := List.getElem_of_mem hx
 have := in8.1 (h i _ (Zm hi))
 simpa using this
def gn (e : Option (Option (Int × Nat))) : Nat -> Nat -> List Int -> Int -> Option (Option (Int × Nat))
 | 0, _, _, _ => none
 | _ + 1, _, [], _ => e
 | f + 1, k, a :: r, acc =>
  if a < 128 then
   if 0 < k /\ a = 0 then some none
   else if 2147483647 < acc + a % 128 * 128 ^ k then some none
   else some (some (acc + a % 128 * 128 ^ k, k + 1))
  else gn e f (k + 1) r (acc + a % 128 * 128 ^ k)
abbrev GnR := (Int × zt36) ⊕ Unit
def gnSum (i : Int) : Option (Option (Int × Nat)) -> GnR
 | none => .inr ()
 | some none => .inl (0, (0, (false, ())))
 | some (some p) => .inl (p.1, (i + p.2, (true, ())))
def gnRes (i : Int) : Option (Option (Int × Nat)) -> Int × (Int × Bool)
 | some (some p) => (p.1, (i + p.2, true))
 | _ => (0, (0, false))
def GetNum (b : List Int) (i : Int) : Int × (Int × Bool) := if i < 0 then (0, (0, false)) else gnRes i (gn (some none) 5 0 (b.drop i.toNat) 0)
abbrev spec_GetNum := GetNum
def impl_GetNum (b : List Int) (i : Int) : Int × (Int × Bool) := if 9223372036854775802 < i then (0, (0, false)) else GetNum b i
theorem gn_join (i : Int) : (f k : Nat) -> (l : List Int) -> (acc : Int) -> gnRes i (gn none f k l acc) = gnRes i (gn (some none) f k l acc)
 | 0, _, _, _ => rfl
 | _ + 1, _, [], _ => rfl
 | f + 1, k, a :: r, acc => by
  simp only [gn]
  split
  . rfl
  . exact gn_join i f (k + 1) r _
theorem gnRes_sum {i : Int} {r : Option (Option (Int × Nat))} {α : Type} (g : Int × zt36 -> α) :
 (match gnSum i r with | .inl y => g y | .inr _ => g (0, (0, (false, ())))) = g ((gnRes i r).1, ((gnRes i r).2.1, ((gnRes i r).2.2, ()))) := by
 match r with
 | none => rfl
 | some none => rfl
 | some (some p) => rfl
theorem pow128 {k : Nat} (hk : k <= 4) : (128 : Int) ^ k <= 268435456 /\ 0 < (128 : Int) ^ k := by
 have : k = 0 \/ k = 1 \/ k = 2 \/ k = 3 \/ k = 4 := by omega
 rcases this with rfl | rfl | rfl | rfl | rfl <;> decide
theorem acc_lt {acc d : Int} {k : Nat} (h1 : acc < 128 ^ k) (h3 : d < 128) : acc + d * 128 ^ k < 128 ^ (k + 1) := by
 have hpos : (0 : Int) < 128 ^ k := Int.pow_pos (by decide)
 have : (d + 1) * 128 ^ k <= 128 * 128 ^ k := Int.mul_le_mul_of_nonneg_right (by omega) (by omega)
 rw [Int.add_mul] at this
 rw [Int.pow_succ]; omega
theorem shl7 {k : Int} (h0 : 0 <= k) (h1 : k <= 4) : min (Int.toNat (wrap .i64 (7 * k))) (IntKind.bits .i64) = 7 * k.toNat := by
 rw [w64 (by omega) (by omega)]
 show min _ 64 = _
 omega
namespace spec_GetNum
abbrev S := List Int × (Int × (Int × (Int × Unit)))
def pre3 : S -> Bool := fun s => isBytes s.1 && (decide (s.1.length <= maxLen) && (decide (0 <= s.2.2.1) && (decide (0 <= s.2.2.2.1) && (decide (s.2.2.2.1 <= 5) && (decide (s.2.2.1 < 128 ^ s.2.2.2.1.toNat) && (decide (s.2.2.2.1 = 0) || decide (0 <= s.2.1 /\ s.2.1 + s.2.2.2.1 <= (s.1.length : Int))))))))
def fn3 : S -> GnR := fun s => if 5 <= s.2.2.2.1 then .inr () else if s.2.1 < 0 then .inl (0, (0, (false, ()))) else gnSum s.2.1 (gn (some none) (5 - s.2.2.2.1.toNat) s.2.2.2.1.toNat (s.1.drop (s.2.1.toNat + s.2.2.2.1.toNat)) s.2.2.1)
def mu3 : S -> Nat := fun s => 5 - s.2.2.2.1.toNat
noncomputable def raw3 (x1 : (List Int)) (x2 : Int) (x3 : Int) (x4 : Int) : Option (((List Int) × (Int × Mark)) ⊕ ((Int × zt36) ⊕ Unit)) :=
 if (decide (x4 < (5 : Int))) = true then
 if (decide (x2 < (0 : Int))) = true then
 some (.inr (.inl ((0 : Int), zd29)))
 else
 if (decide ((wrap .i64 (((length x1 : Nat) : Int) - x4)) <= x2)) = true then
 some (.inr (.inl ((0 : Int), zd29)))
 else
 if (decide ((0 : Int) <= (wrap .i64 (x2 + x4)))) = true then
 if (decide ((wrap .i64 (x2 + x4)) < ((length x1 : Nat) : Int))) = true then
 if (!(decide ((128 : Int) = (0 : Int)))) = true then
 if (decide ((0 : Int) <= (wrap .i64 ((7 : Int) * x4)))) = true then
 if (decide ((wrap .i64 (List.getD x1 (Int.toNat (wrap .i64 (x2 + x4))) (0 : Int))) < (128 : Int))) = true then
 if (decide ((0 : Int) < x4)) = true then
 if (decide ((wrap .i64 (List.getD x1 (Int.toNat (wrap .i64 (x2 + x4))) (0 : Int))) = (0 : Int))) = true then
 some (.inr (.inl ((0 : Int), zd29)))
 else
 if (decide ((2147483647 : Int) < (intBits .or .i64 x3 (wrap .i64 ((Int.tmod (wrap .i64 (List.getD x1 (Int.toNat (wrap .i64 (x2 + x4))) (0 : Int))) (128 : Int)) * 2 ^ min (Int.toNat (wrap .i64 ((7 : Int) * x4))) (IntKind.bits .i64)))))) = true then
 some (.inr (.inl ((0 : Int), zd29)))
 else
 some (.inr (.inl ((intBits .or .i64 x3 (wrap .i64 ((Int.tmod (wrap .i64 (List.getD x1 (Int.toNat (wrap .i64 (x2 + x4))) (0 : Int))) (128 : Int)) * 2 ^ min (Int.toNat (wrap .i64 ((7 : Int) * x4))) (IntKind.bits .i64)))), ((wrap .i64 ((wrap .i64 (x2 + x4)) + (1 : Int))), (true, ())))))
 else
 if (decide ((2147483647 : Int) < (intBits .or .i64 x3 (wrap .i64 ((Int.tmod (wrap .i64 (List.getD x1 (Int.toNat (wrap .i64 (x2 + x4))) (0 : Int))) (128 : Int)) * 2 ^ min (Int.toNat (wrap .i64 ((7 : Int) * x4))) (IntKind.bits .i64)))))) = true then
 some (.inr (.inl ((0 : Int), zd29)))
 else
 some (.inr (.inl ((intBits .or .i64 x3 (wrap .i64 ((Int.tmod (wrap .i64 (List.getD x1 (Int.toNat (wrap .i64 (x2 + x4))) (0 : Int))) (128 : Int)) * 2 ^ min (Int.toNat (wrap .i64 ((7 : Int) * x4))) (IntKind.bits .i64)))), ((wrap .i64 ((wrap .i64 (x2 + x4)) + (1 : Int))), (true, ())))))
 else
 some (.inl (x1, (x2, ((intBits .or .i64 x3 (wrap .i64 ((Int.tmod (wrap .i64 (List.getD x1 (Int.toNat (wrap .i64 (x2 + x4))) (0 : Int))) (128 : Int)) * 2 ^ min (Int.toNat (wrap .i64 ((7 : Int) * x4))) (IntKind.bits .i64)))), ((wrap .i64 (x4 + (1 : Int))), ())))))
 else
 none
 else
 none
 else
 none
 else
 none
 else
 some (.inr (.inr ()))
abbrev wf (x0 : (List Int)) (x1 : Int) : Prop := wfA [(.val zk20 .f), (.val (.int .i64) .f)] (x0, (x1, ()))
noncomputable def raw (x0 : (List Int)) (x1 : Int) : Option (Unit × (Int × zt36)) :=
 if (spec_GetNum.pre3 (x0, (x1, zd28))) = true then
  match (spec_GetNum.fn3 (x0, (x1, zd28))) with
  | .inl y =>
   some ((), y)
  | .inr y =>
   some ((), ((0 : Int), zd29))
 else
  none
theorem ok3 (x1 : List Int) (x2 x3 x4 : Int) (hp : pre3 (x1, (x2, (x3, (x4, ())))) = true) : Rounds pre3 mu3 fn3 (x1, (x2, (x3, (x4, ())))) (raw3 x1 x2 x3 x4) := by
 simp only [pre3, Zb, Bool.or_eq_true, Za] at hp
 obtain ⟨hb, h1, h2, h3, h4, h5, h6⟩ := hp
 have hM := maxLen_eq
 unfold raw3
 by_cases hk : x4 < 5
 case neg =>
  rw [if_neg (by simp [hk])]
  simp only [Rounds, fn3]
  rw [if_pos (by omega)]
 rw [if_pos (by simp [hk])]
 by_cases hi : x2 < 0
 . rw [if_pos (by simp [hi])]
   simp only [Rounds, fn3]
   rw [if_neg (by omega), if_pos hi]
 rw [if_neg (by simp [hi]), w64 (n := (x1.length : Int) - x4) (by omega) (by omega)]
 have hfu : 5 - x4.toNat = (4 - x4.toNat) + 1 := by omega
 by_cases he : (x1.length : Int) - x4 <= x2
 . rw [if_pos (by simp [he])]
   simp only [Rounds, fn3]
   rw [if_neg (by omega), if_neg hi, Zt (by omega), hfu]
   rfl
 rw [if_neg (by simp [he]), w64 (n := x2 + x4) (by omega) (by omega)]
 have hn : x2.toNat + x4.toNat < x1.length := by omega
 have hx : (x2 + x4).toNat = x2.toNat + x4.toNat := by omega
 obtain ⟨ha0, ha1⟩ := isBytes_get hb hn
 have e1 := Zn hn
 rw [hx, getD_get hn]
 rw [if_pos (by simp only [Za]; omega), if_pos (by simp only [Za]; omega), if_pos (by decide), if_pos (by rw [w64 (by omega) (by omega)]; simp only [Za]; omega)]
 generalize ha : x1[x2.toNat + x4.toNat] = a at *
 rw [w64 (n := a) (by omega) (by omega), Int.tmod_eq_emod_of_nonneg ha0, shl7 h3 (by omega), or_shift h2 h5 (by omega) (by omega) (by omega)]
 have hf : fn3 (x1, (x2, (x3, (x4, ())))) = gnSum x2 (gn (some none) ((4 - x4.toNat) + 1) x4.toNat (a :: x1.drop (x2.toNat + x4.toNat + 1)) x3) := by
  simp only [fn3]
  rw [if_neg (by omega), if_neg hi, hfu, e1]
 simp only [gn] at hf
 have hpw := pow128 (k := x4.toNat) (by omega)
 by_cases hs : a < 128
 . rw [if_pos hs] at hf
   rw [if_pos (by simp [hs])]
   by_cases hz : 0 < x4.toNat /\ a = 0
   . rw [if_pos hz] at hf
     rw [if_pos (by simp only [Za]; omega), if_pos (by simp [hz.2])]
     exact hf.symm
   . rw [if_neg hz] at hf
     by_cases hg : 2147483647 < x3 + a % 128 * 128 ^ x4.toNat
     . rw [if_pos hg] at hf
       by_cases h0 : 0 < x4
       . rw [if_pos (by simp [h0]), if_neg (by simp only [Za]; omega), if_pos (by simp [hg])]
         exact hf.symm
       . rw [if_neg (by simp [h0]), if_pos (by simp [hg])]
         exact hf.symm
     . rw [if_neg hg] at hf
       have hw : wrap .i64 (x2 + x4 + 1) = x2 + ((x4.toNat + 1 : Nat) : Int) := by rw [w64 (by omega) (by omega)]; push_cast; omega
       rw [hw]
       by_cases h0 : 0 < x4
       . rw [if_pos (by simp [h0]), if_neg (by simp only [Za]; omega), if_neg (by simp only [Za]; exact hg)]
         exact hf.symm
       . rw [if_neg (by simp [h0]), if_neg (by simp only [Za]; exact hg)]
         exact hf.symm
 . rw [if_neg hs] at hf
   rw [if_neg (by simp [hs]), w64 (n := x4 + 1) (by omega) (by omega)]
   have hd0 : 0 <= a % 128 * 128 ^ x4.toNat := Int.mul_nonneg (by omega) (by omega)
   have hal := acc_lt (k := x4.toNat) (acc := x3) (d := a % 128) h5 (by omega)
   have hs1 : (x4 + 1).toNat = x4.toNat + 1 := by omega
   simp only [Rounds]
   refine ⟨?_, by simp only [mu3]; omega, ?_⟩
   . simp only [pre3, Zb, Bool.or_eq_true, Za, hs1]
     exact ⟨hb, h1, by omega, by omega, by omega, hal, .inr ⟨by omega, by omega⟩⟩
   . rw [hf]
     simp only [fn3, hs1]
     by_cases h5 : (5 : Int) <= x4 + 1
     . rw [if_pos h5, show 4 - x4.toNat = 0 by omega]; rfl
     . rw [if_neg h5, if_neg hi, show 5 - (x4.toNat + 1) = 4 - x4.toNat by omega, show x2.toNat + (x4.toNat + 1) = x2.toNat + x4.toNat + 1 by omega]
theorem eq (x0 : List Int) (x1 : Int) (hw : wf x0 x1) : raw x0 x1 = some ((), ((spec_GetNum x0 x1).1, ((spec_GetNum x0 x1).2.1, ((spec_GetNum x0 x1).2.2, ())))) := by
 have h1 : x0.length <= maxLen := hw.1.1
 have hb : isBytes x0 = true := isBytes_of hw.1.2
 unfold raw
 rw [if_pos (show pre3 _ = true by simp [pre3, h1, hb])]
 have hf : fn3 (x0, (x1, zd28)) = if x1 < 0 then .inl (0, (0, (false, ()))) else gnSum x1 (gn (some none) 5 0 (x0.drop x1.toNat) 0) := rfl
 rw [hf]
 unfold spec_GetNum GetNum
 by_cases h : x1 < 0
 . simp only [if_pos h]
 . simp only [if_neg h]
   exact gnRes_sum (fun y => some ((), y))
end spec_GetNum
namespace impl_GetNum
abbrev S := List Int × (Int × (Int × (Int × Unit)))
def pre5 : S -> Bool := fun s => isBytes s.1 && (decide (s.1.length <= maxLen) && (decide (0 <= s.2.2.1) && (decide (0 <= s.2.1) && (decide (s.2.1 <= 9223372036854775807) && (decide (s.2.1 <= s.2.2.2.1) && (decide (s.2.2.2.1 - s.2.1 <= 5) && (decide (s.2.2.1 < 128 ^ (s.2.2.2.1 - s.2.1).toNat) && (decide (s.2.2.2.1 = s.2.1) || decide (s.2.1 <= 9223372036854775802)))))))))
def fn5 : S -> GnR := fun s => if 9223372036854775802 < s.2.1 then .inr () else gnSum s.2.1 (gn none (5 - (s.2.2.2.1 - s.2.1).toNat) (s.2.2.2.1 - s.2.1).toNat (s.1.drop s.2.2.2.1.toNat) s.2.2.1)
def mu5 : S -> Nat := fun s => 5 - (s.2.2.2.1 - s.2.1).toNat
noncomputable def raw5 (x1 : (List Int)) (x2 : Int) (x3 : Int) (x4 : Int) : Option (((List Int) × (Int × Mark)) ⊕ ((Int × zt36) ⊕ Unit)) :=
 if (decide (x4 < ((length x1 : Nat) : Int))) = true then
 if (decide (x4 < (wrap .i64 (x2 + (5 : Int))))) = true then
 if (decide ((0 : Int) <= x4)) = true then
 if (decide (x4 < ((length x1 : Nat) : Int))) = true then
 if (decide ((0 : Int) <= (wrap .i64 ((7 : Int) * (wrap .i64 (x4 - x2)))))) = true then
 if (decide ((0 : Int) <= x4)) = true then
 if (decide (x4 < ((length x1 : Nat) : Int))) = true then
 if (decide ((List.getD x1 (Int.toNat x4) (0 : Int)) < (128 : Int))) = true then
 if (decide ((2147483647 : Int) < (intBits .or .i64 x3 (wrap .i64 ((wrap .i64 (intBits .and .u8 (List.getD x1 (Int.toNat x4) (0 : Int)) (127 : Int))) * 2 ^ min (Int.toNat (wrap .i64 ((7 : Int) * (wrap .i64 (x4 - x2))))) (IntKind.bits .i64)))))) = true then
 some (.inr (.inl ((0 : Int), zd29)))
 else
 if (decide (x2 < x4)) = true then
 if (decide ((0 : Int) <= x4)) = true then
 if (decide (x4 < ((length x1 : Nat) : Int))) = true then
 if (decide ((List.getD x1 (Int.toNat x4) (0 : Int)) = (0 : Int))) = true then
 some (.inr (.inl ((0 : Int), zd29)))
 else
 some (.inr (.inl ((intBits .or .i64 x3 (wrap .i64 ((wrap .i64 (intBits .and .u8 (List.getD x1 (Int.toNat x4) (0 : Int)) (127 : Int))) * 2 ^ min (Int.toNat (wrap .i64 ((7 : Int) * (wrap .i64 (x4 - x2))))) (IntKind.bits .i64)))), ((wrap .i64 (x4 + (1 : Int))), (true, ())))))
 else
 none
 else
 none
 else
 some (.inr (.inl ((intBits .or .i64 x3 (wrap .i64 ((wrap .i64 (intBits .and .u8 (List.getD x1 (Int.toNat x4) (0 : Int)) (127 : Int))) * 2 ^ min (Int.toNat (wrap .i64 ((7 : Int) * (wrap .i64 (x4 - x2))))) (IntKind.bits .i64)))), ((wrap .i64 (x4 + (1 : Int))), (true, ())))))
 else
 some (.inl (x1, (x2, ((intBits .or .i64 x3 (wrap .i64 ((wrap .i64 (intBits .and .u8 (List.getD x1 (Int.toNat x4) (0 : Int)) (127 : Int))) * 2 ^ min (Int.toNat (wrap .i64 ((7 : Int) * (wrap .i64 (x4 - x2))))) (IntKind.bits .i64)))), ((wrap .i64 (x4 + (1 : Int))), ())))))
 else
 none
 else
 none
 else
 none
 else
 none
 else
 none
 else
 some (.inr (.inr ()))
 else
 some (.inr (.inr ()))
abbrev wf (x0 : (List Int)) (x1 : Int) : Prop := wfA [(.val zk20 .f), (.val (.int .i64) .f)] (x0, (x1, ()))
noncomputable def raw (x0 : (List Int)) (x1 : Int) : Option (Unit × (Int × zt36)) :=
 if (decide (x1 < (0 : Int))) = true then
  some ((), ((0 : Int), zd29))
 else
  if (impl_GetNum.pre5 (x0, (x1, ((0 : Int), (x1, ()))))) = true then
   match (impl_GetNum.fn5 (x0, (x1, ((0 : Int), (x1, ()))))) with
   | .inl y =>
    some ((), y)
   | .inr y =>
    some ((), ((0 : Int), zd29))
  else
   none
theorem ok5 (x1 : List Int) (x2 x3 x4 : Int) (hp : pre5 (x1, (x2, (x3, (x4, ())))) = true) : Rounds pre5 mu5 fn5 (x1, (x2, (x3, (x4, ())))) (raw5 x1 x2 x3 x4) := by
 simp only [pre5, Zb, Bool.or_eq_true, Za] at hp
 obtain ⟨hb, h1, h2, hi0, hi1, h3, h4, h5, h6⟩ := hp
 have hM := maxLen_eq
 unfold raw5
 by_cases hbig : 9223372036854775802 < x2
 . have hf : fn5 (x1, (x2, (x3, (x4, ())))) = .inr () := if_pos hbig
   have hwr : ¬ x4 < wrap .i64 (x2 + 5) := by
    simp [wrap, IntKind.signed, IntKind.bits]; split <;> omega
   by_cases hl : x4 < (x1.length : Int)
   . rw [if_pos (by simp [hl]), if_neg (by simp [hwr])]; exact hf.symm
   . rw [if_neg (by simp [hl])]; exact hf.symm
 have hf0 : fn5 (x1, (x2, (x3, (x4, ())))) = gnSum x2 (gn none (5 - (x4 - x2).toNat) (x4 - x2).toNat (x1.drop x4.toNat) x3) := if_neg hbig
 rw [w64 (n := x2 + 5) (by omega) (by omega)]
 by_cases hl : x4 < (x1.length : Int)
 case neg =>
  rw [if_neg (by simp [hl])]
  rw [Zt (by omega)] at hf0
  show _ = _
  rw [hf0]
  cases 5 - (x4 - x2).toNat <;> rfl
 rw [if_pos (by simp [hl])]
 by_cases hk : x4 < x2 + 5
 case neg =>
  rw [if_neg (by simp only [Za]; exact hk)]
  show _ = _
  rw [hf0, show 5 - (x4 - x2).toNat = 0 by omega]; rfl
 have hn : x4.toNat < x1.length := by omega
 obtain ⟨ha0, ha1⟩ := isBytes_get hb hn
 have e1 := Zn hn
 rw [getD_get hn, w64 (n := x4 - x2) (by omega) (by omega)]
 have h04 : (0 : Int) <= x4 := by omega
 rw [if_pos (by simp only [Za]; exact hk), if_pos (by simp [h04]), if_pos (by simp [hl]), if_pos (by rw [w64 (by omega) (by omega)]; simp only [Za]; omega), if_pos (by simp [h04]), if_pos (by simp [hl])]
 rw [show 5 - (x4 - x2).toNat = (4 - (x4 - x2).toNat) + 1 by omega, e1] at hf0
 generalize ha : x1[x4.toNat] = a at *
 rw [and127b ha0 ha1, w64 (n := a % 128) (by omega) (by omega), shl7 (k := x4 - x2) (by omega) (by omega), or_shift h2 h5 (by omega) (by omega) (by omega)]
 simp only [gn] at hf0
 have hpw := pow128 (k := (x4 - x2).toNat) (by omega)
 by_cases hs : a < 128
 . rw [if_pos hs] at hf0
   rw [if_pos (by simp [hs])]
   by_cases hg : 2147483647 < x3 + a % 128 * 128 ^ (x4 - x2).toNat
   . rw [if_pos (by simp only [Za]; exact hg)]
     simp only [if_pos hg] at hf0
     show _ = _
     rw [hf0]; split <;> rfl
   . rw [if_neg (by simp only [Za]; exact hg)]
     have hw : wrap .i64 (x4 + 1) = x2 + (((x4 - x2).toNat + 1 : Nat) : Int) := by rw [w64 (by omega) (by omega)]; push_cast; omega
     rw [hw]
     simp only [if_neg hg] at hf0
     by_cases h0 : x2 < x4
     . rw [if_pos (by simp [h0]), if_pos (by simp [h04]), if_pos (by simp [hl])]
       by_cases hz : a = 0
       . rw [if_pos ⟨by omega, hz⟩] at hf0
         rw [if_pos (by simp [hz])]; exact hf0.symm
       . rw [if_neg (by omega)] at hf0
         rw [if_neg (by simp [hz])]; exact hf0.symm
     . rw [if_neg (by omega)] at hf0
       rw [if_neg (by simp [h0])]; exact hf0.symm
 . rw [if_neg hs] at hf0
   rw [if_neg (by simp [hs]), w64 (n := x4 + 1) (by omega) (by omega)]
   have hd0 : 0 <= a % 128 * 128 ^ (x4 - x2).toNat := Int.mul_nonneg (by omega) (by omega)
   have hal := acc_lt (k := (x4 - x2).toNat) (acc := x3) (d := a % 128) h5 (by omega)
   have hs1 : (x4 + 1 - x2).toNat = (x4 - x2).toNat + 1 := by omega
   simp only [Rounds]
   refine ⟨?_, by simp only [mu5]; omega, ?_⟩
   . simp only [pre5, Zb, Bool.or_eq_true, Za, hs1]
     exact ⟨hb, h1, by omega, hi0, hi1, by omega, by omega, hal, .inr (by omega)⟩
   . rw [hf0]
     simp only [fn5, hs1]
     rw [if_neg hbig, show 5 - ((x4 - x2).toNat + 1) = 4 - (x4 - x2).toNat by omega, show (x4 + 1).toNat = x4.toNat + 1 by omega]
theorem eq (x0 : List Int) (x1 : Int) (hw : wf x0 x1) : raw x0 x1 = some ((), ((impl_GetNum x0 x1).1, ((impl_GetNum x0 x1).2.1, ((impl_GetNum x0 x1).2.2, ())))) := by
 have h1 : x0.length <= maxLen := hw.1.1
 have hb : isBytes x0 = true := isBytes_of hw.1.2
 have hi : -9223372036854775808 <= x1 /\ x1 <= 9223372036854775807 := in64.1 hw.2.1
 unfold raw impl_GetNum GetNum
 by_cases h : x1 < 0
 . rw [if_pos (by simp [h]), if_neg (by omega), if_pos h]
 . rw [if_neg (by simp [h]), if_pos (show pre5 _ = true by simp [pre5, h1, hb]; omega)]
   by_cases hbig : 9223372036854775802 < x1
   . have hf : fn5 (x0, (x1, ((0 : Int), (x1, ())))) = .inr () := if_pos hbig
     rw [hf, if_pos hbig]
   . have hf : fn5 (x0, (x1, ((0 : Int), (x1, ())))) = gnSum x1 (gn none 5 0 (x0.drop x1.toNat) 0) := by
      simp only [fn5]
      rw [if_neg hbig, Int.sub_self]; rfl
     rw [hf, if_neg hbig, if_neg h, <- gn_join]
     exact gnRes_sum (fun y => some ((), y))
end impl_GetNum
def CmdBytes (c : Cmd) : List Int :=
 if CmdOk c = true then List.append (List.append (nums [wrap .i64 (c.1 + 1), c.2.1, c.2.2.1, c.2.2.2.1, c.2.2.2.2.1, c.2.2.2.2.2.1]) (PutText c.2.2.2.2.2.2.1)) (PutText c.2.2.2.2.2.2.2.1) else []
abbrev spec_CmdBytes := CmdBytes
abbrev impl_CmdBytes := CmdBytes
theorem CmdOk_texts {c : Cmd} (h : CmdOk c = true) : c.2.2.2.2.2.2.1.length <= 30 /\ c.2.2.2.2.2.2.2.1.length <= 30 := by
 unfold CmdOk at h
 split at h
 . simp only [Zb, beq_iff_eq] at h
   obtain ⟨_, _, _, _, _, _, h1, h2⟩ := h
   rw [h1, h2]; simp
 . simp only [Zb, wordsOk, Za] at h
   omega
theorem CmdBytes_len (c : Cmd) : (CmdBytes c).length <= 100 := by
 unfold CmdBytes
 split
 . rename_i h
   have h1 := CmdOk_texts h
   have h2 := nums_len [wrap .i64 (c.1 + 1), c.2.1, c.2.2.1, c.2.2.2.1, c.2.2.2.2.1, c.2.2.2.2.2.1]
   have h3 := PutText_len c.2.2.2.2.2.2.1
   have h4 := PutText_len c.2.2.2.2.2.2.2.1
   simp only [List.append_eq, Zf, Zg, Zh] at *
   omega
 . simp
namespace spec_CmdBytes
abbrev wf (x0 : Cmd) : Prop := wfA [(.val zk4 .f)] (x0, ())
noncomputable def raw (x0 : Cmd) : Option (Unit × zt12) :=
 letB (CmdOk x0) fun v1 =>
 if (!v1) = true then
 some ((), (([] : List Int), ()))
 else
 if (spec_l7Nums.pre ((wrap .i64 (x0.1 + (1 : Int))) :: (x0.2.1 :: (x0.2.2.1 :: (x0.2.2.2.1 :: (x0.2.2.2.2.1 :: (x0.2.2.2.2.2.1 :: ([] : List Int)))))))) = true then
 if (spec_PutText.pre x0.2.2.2.2.2.2.1) = true then
 letB (nums ((wrap .i64 (x0.1 + (1 : Int))) :: (x0.2.1 :: (x0.2.2.1 :: (x0.2.2.2.1 :: (x0.2.2.2.2.1 :: (x0.2.2.2.2.2.1 :: ([] : List Int)))))))) fun v2 =>
 letB (PutText x0.2.2.2.2.2.2.1) fun v3 =>
 if (decide (length v2 + length v3 <= lim)) = true then
 if (spec_PutText.pre x0.2.2.2.2.2.2.2.1) = true then
 letB (PutText x0.2.2.2.2.2.2.2.1) fun v4 =>
 if (decide (length (List.append v2 v3) + length v4 <= lim)) = true then
 some ((), ((List.append (List.append v2 v3) v4), ()))
 else
 none
 else
 none
 else
 none
 else
 none
 else
 none
theorem eq (x0 : Cmd) (_ : wf x0) : raw x0 = some ((), (spec_CmdBytes x0, ())) := by
 unfold raw
 simp only [letB]
 by_cases h : CmdOk x0 = true
 case neg =>
  rw [if_pos (by simp [h])]
  unfold spec_CmdBytes CmdBytes
  rw [if_neg h]
 have h1 := CmdOk_texts h
 have h2 := nums_len [wrap .i64 (x0.1 + 1), x0.2.1, x0.2.2.1, x0.2.2.2.1, x0.2.2.2.2.1, x0.2.2.2.2.2.1]
 have h3 := PutText_len x0.2.2.2.2.2.2.1
 have h4 := PutText_len x0.2.2.2.2.2.2.2.1
 simp only [Zg, Zh] at h2
 rw [if_neg (by simp [h]), if_pos (show spec_l7Nums.pre _ = true by simp [spec_l7Nums.pre, numsPre, small]), if_pos (show spec_PutText.pre _ = true by simp [spec_PutText.pre, txtPre]; omega),
  if_pos (by simp only [Za, lim]; omega), if_pos (show spec_PutText.pre _ = true by simp [spec_PutText.pre, txtPre]; omega), if_pos (by simp only [Za, lim, List.append_eq, Zf]; omega)]
 unfold spec_CmdBytes CmdBytes
 rw [if_pos h]
end spec_CmdBytes
namespace impl_CmdBytes
abbrev wf (x0 : Cmd) : Prop := wfA [(.val zk4 .f)] (x0, ())
noncomputable def raw (x0 : Cmd) : Option (Unit × zt12) :=
 letB (CmdOk x0) fun v1 =>
 if (!v1) = true then
 some ((), (([] : List Int), ()))
 else
 if (impl_nums.pre ((wrap .i64 (x0.1 + (1 : Int))) :: (x0.2.1 :: (x0.2.2.1 :: (x0.2.2.2.1 :: (x0.2.2.2.2.1 :: (x0.2.2.2.2.2.1 :: ([] : List Int)))))))) = true then
 if (impl_PutText.pre x0.2.2.2.2.2.2.1) = true then
 if (impl_PutText.pre x0.2.2.2.2.2.2.2.1) = true then
 letB (nums ((wrap .i64 (x0.1 + (1 : Int))) :: (x0.2.1 :: (x0.2.2.1 :: (x0.2.2.2.1 :: (x0.2.2.2.2.1 :: (x0.2.2.2.2.2.1 :: ([] : List Int)))))))) fun v2 =>
 letB (PutText x0.2.2.2.2.2.2.1) fun v3 =>
 letB (PutText x0.2.2.2.2.2.2.2.1) fun v4 =>
 if (slices_Concat_byte.pre (v2 :: (v3 :: (v4 :: ([] : List (List Int)))))) = true then
 letB (slices_Concat_byte (v2 :: (v3 :: (v4 :: ([] : List (List Int)))))) fun v5 =>
 some ((), (v5, ()))
 else
 none
 else
 none
 else
 none
 else
 none
theorem eq (x0 : Cmd) (_ : wf x0) : raw x0 = some ((), (impl_CmdBytes x0, ())) := by
 unfold raw
 simp only [letB]
 by_cases h : CmdOk x0 = true
 case neg =>
  rw [if_pos (by simp [h])]
  unfold impl_CmdBytes CmdBytes
  rw [if_neg h]
 have h1 := CmdOk_texts h
 have h2 := nums_len [wrap .i64 (x0.1 + 1), x0.2.1, x0.2.2.1, x0.2.2.2.1, x0.2.2.2.2.1, x0.2.2.2.2.2.1]
 have h3 := PutText_len x0.2.2.2.2.2.2.1
 have h4 := PutText_len x0.2.2.2.2.2.2.2.1
 simp only [Zg, Zh] at h2
 rw [if_neg (by simp [h]), if_pos (show impl_nums.pre _ = true by simp [impl_nums.pre, numsPre, small]), if_pos (show impl_PutText.pre _ = true by simp [impl_PutText.pre, txtPre]; omega),
  if_pos (show impl_PutText.pre _ = true by simp [impl_PutText.pre, txtPre]; omega), if_pos (show slices_Concat_byte.pre _ = true by simp [slices_Concat_byte.pre, small]; omega)]
 unfold impl_CmdBytes CmdBytes
 rw [if_pos h]
 simp only [slices_Concat_byte, List.flatten_cons, List.flatten_nil, List.append_nil, List.append_eq, Zk]
end impl_CmdBytes
def entB (e : Entry) : List Int := PutNum e.1 ++ CmdBytes e.2.1
def ents (xs : List Entry) : List Int := xs.flatMap entB
theorem ents_len : (xs : List Entry) -> (ents xs).length <= 105 * xs.length
 | [] => by simp [ents]
 | a :: r => by
  have := PutNum_len a.1
  have := CmdBytes_len a.2.1
  have := ents_len r
  simp only [ents, entB, List.flatMap_cons, Zf, Zg] at *
  omega
def headB (r : Note) : List Int := PutNum r.1 ++ PutNum r.2.1 ++ PutNum (wrap .i64 (r.2.2.1 + 1)) ++ PutNum r.2.2.2.1 ++ PutNum (r.2.2.2.2.1.length : Int)
theorem headB_len (r : Note) : (headB r).length <= 25 := by
 have h1 := PutNum_len r.1
 have h2 := PutNum_len r.2.1
 have h3 := PutNum_len (wrap .i64 (r.2.2.1 + 1))
 have h4 := PutNum_len r.2.2.2.1
 have h5 := PutNum_len (r.2.2.2.2.1.length : Int)
 simp only [headB, Zf]; omega
def spec_l9Body (r : Note) : List Int := headB r ++ ents r.2.2.2.2.1 ++ PutText r.2.2.2.2.2.1
def NoteBytes (r : Note) : List Int := if NoteOk r = true then PutNum (spec_l9Body r).length ++ spec_l9Body r ++ sum4 (SumOf (spec_l9Body r)) else []
abbrev spec_NoteBytes := NoteBytes
abbrev impl_NoteBytes := NoteBytes
theorem NoteOk_len {r : Note} (h : NoteOk r = true) : r.2.2.2.2.1.length <= 40 /\ r.2.2.2.2.2.1.length <= 30000 := by
 simp only [NoteOk, spec_l9List, Zb, Za] at h
 omega
namespace spec_l9Body
def pre (r : Note) : Bool := decide (r.2.2.2.2.1.length <= 40) && decide (r.2.2.2.2.2.1.length <= 30000)
abbrev S := Int × (Note × (List Int × Unit))
def pre6 : S -> Bool := fun s => decide (s.2.1.2.2.2.2.1.length <= 40) && (decide (0 <= s.1) && (decide (s.1.toNat <= s.2.1.2.2.2.2.1.length) && decide (s.2.2.1.length <= 25 + 105 * s.1.toNat)))
def fn6 : S -> Note × (List Int × Unit) := fun s => (s.2.1, (s.2.2.1 ++ ents (s.2.1.2.2.2.2.1.drop s.1.toNat), ()))
def mu6 : S -> Nat := fun s => s.2.1.2.2.2.2.1.length - s.1.toNat
noncomputable def raw6 (x1 : Int) (x2 : Note) (x3 : (List Int)) : Option ((Int × (Note × zt12)) ⊕ (Note × zt12)) :=
 if (decide (x1 < ((length x2.2.2.2.2.1 : Nat) : Int))) = true then
 if (decide ((0 : Int) <= x1)) = true then
 if (decide (x1 < ((length x2.2.2.2.2.1 : Nat) : Int))) = true then
 letB (PutNum (List.getD x2.2.2.2.2.1 (Int.toNat x1) zd24).1) fun v1 =>
 if (decide (length x3 + length v1 <= lim)) = true then
 letB (CmdBytes (List.getD x2.2.2.2.2.1 (Int.toNat x1) zd24).2.1) fun v2 =>
 if (decide (length (List.append x3 v1) + length v2 <= lim)) = true then
 some (.inl ((wrap .i64 (x1 + (1 : Int))), (x2, ((List.append (List.append x3 v1) v2), ()))))
 else
 none
 else
 none
 else
 none
 else
 none
 else
 some (.inr (x2, (x3, ())))
abbrev wf (x0 : Note) : Prop := wfA [(.val zk18 .f)] (x0, ())
noncomputable def raw (x0 : Note) : Option (Unit × zt12) :=
 letB (PutNum x0.1) fun v1 =>
 letB (PutNum x0.2.1) fun v2 =>
 if (decide (length v1 + length v2 <= lim)) = true then
 letB (PutNum (wrap .i64 (x0.2.2.1 + (1 : Int)))) fun v3 =>
 if (decide (length (List.append v1 v2) + length v3 <= lim)) = true then
 letB (PutNum x0.2.2.2.1) fun v4 =>
 if (decide (length (List.append (List.append v1 v2) v3) + length v4 <= lim)) = true then
 letB (PutNum ((length x0.2.2.2.2.1 : Nat) : Int)) fun v5 =>
 if (decide (length (List.append (List.append (List.append v1 v2) v3) v4) + length v5 <= lim)) = true then
 if (spec_l9Body.pre6 ((0 : Int), (x0, ((List.append (List.append (List.append (List.append v1 v2) v3) v4) v5), ())))) = true then
 letB (spec_l9Body.fn6 ((0 : Int), (x0, ((List.append (List.append (List.append (List.append v1 v2) v3) v4) v5), ())))) fun v6 =>
 if (spec_PutText.pre v6.1.2.2.2.2.2.1) = true then
 letB (PutText v6.1.2.2.2.2.2.1) fun v7 =>
 if (decide (length v6.2.1 + length v7 <= lim)) = true then
 some ((), ((List.append v6.2.1 v7), ()))
 else
 none
 else
 none
 else
 none
 else
 none
 else
 none
 else
 none
 else
 none
theorem ok6 (x1 : Int) (x2 : Note) (x3 : List Int) (hp : pre6 (x1, (x2, (x3, ()))) = true) : Rounds pre6 mu6 fn6 (x1, (x2, (x3, ()))) (raw6 x1 x2 x3) := by
 simp only [pre6, Zb, Za] at hp
 obtain ⟨h1, h2, h3, h4⟩ := hp
 unfold raw6
 by_cases hlt : x1 < (x2.2.2.2.2.1.length : Int)
 . have hn : x1.toNat < x2.2.2.2.2.1.length := by omega
   have e1 := Zn hn
   have h5 := PutNum_len (x2.2.2.2.2.1[x1.toNat]).1
   have h6 := CmdBytes_len (x2.2.2.2.2.1[x1.toNat]).2.1
   simp only [letB]
   rw [if_pos (by simp [hlt]), if_pos (by simp [h2]), if_pos (by simp [hlt]), getD_get hn, if_pos (by simp only [Za, lim]; omega), if_pos (by simp only [Za, lim, List.append_eq, Zf]; omega), w64 (n := x1 + 1) (by omega) (by omega)]
   simp only [Rounds]
   refine ⟨?_, by simp only [mu6]; omega, ?_⟩
   . simp only [pre6, Zb, Za, List.append_eq, Zf]; omega
   . simp only [fn6, show (x1 + 1).toNat = x1.toNat + 1 by omega, e1, ents, entB, List.flatMap_cons, List.append_eq, Zk]
 . rw [if_neg (by simp [hlt])]
   simp only [Rounds, fn6]
   rw [Zt (by omega)]
   simp [ents]
theorem eq (x0 : Note) (_ : wf x0) (hp : pre x0 = true) : raw x0 = some ((), (spec_l9Body x0, ())) := by
 simp only [pre, Zb, Za] at hp
 obtain ⟨h1, h2⟩ := hp
 have hh := headB_len x0
 have he := ents_len x0.2.2.2.2.1
 have ht := PutText_len x0.2.2.2.2.2.1
 simp only [headB, Zf] at hh
 unfold raw
 simp only [letB, List.append_eq, Zf]
 rw [if_pos (by simp only [Za, lim]; omega), if_pos (by simp only [Za, lim]; omega), if_pos (by simp only [Za, lim]; omega), if_pos (by simp only [Za, lim]; omega),
  if_pos (show pre6 _ = true by simp only [pre6, Zb, Za, Zf]; omega)]
 have hf : ∀ o : List Int, fn6 ((0 : Int), (x0, (o, ()))) = (x0, (o ++ ents x0.2.2.2.2.1, ())) := fun o => rfl
 simp only [hf]
 rw [if_pos (show spec_PutText.pre _ = true by simp [spec_PutText.pre, txtPre]; omega), if_pos (by simp only [Za, lim, Zf]; omega)]
 rfl
end spec_l9Body
theorem body_len {r : Note} (h : r.2.2.2.2.1.length <= 40 /\ r.2.2.2.2.2.1.length <= 30000) : (spec_l9Body r).length <= 40000 := by
 have hh := headB_len r
 have he := ents_len r.2.2.2.2.1
 have ht := PutText_len r.2.2.2.2.2.1
 simp only [spec_l9Body, Zf]; omega
namespace spec_NoteBytes
abbrev wf (x0 : Note) : Prop := wfA [(.val zk18 .f)] (x0, ())
noncomputable def raw (x0 : Note) : Option (Unit × zt12) :=
 letB (NoteOk x0) fun v1 =>
 if (!v1) = true then
 some ((), (([] : List Int), ()))
 else
 if (spec_l9Body.pre x0) = true then
 letB (spec_l9Body x0) fun v2 =>
 letB (PutNum ((length v2 : Nat) : Int)) fun v3 =>
 if (decide (length v3 + length v2 <= lim)) = true then
 letB (spec_l9Sum v2) fun v4 =>
 if (decide (length (List.append v3 v2) + length v4 <= lim)) = true then
 some ((), ((List.append (List.append v3 v2) v4), ()))
 else
 none
 else
 none
 else
 none
theorem eq (x0 : Note) (_ : wf x0) : raw x0 = some ((), (spec_NoteBytes x0, ())) := by
 unfold raw
 simp only [letB]
 by_cases h : NoteOk x0 = true
 case neg =>
  rw [if_pos (by simp [h])]
  unfold spec_NoteBytes NoteBytes
  rw [if_neg h]
 have hl := NoteOk_len h
 have hb := body_len hl
 have hp := PutNum_len ((spec_l9Body x0).length : Int)
 rw [if_neg (by simp [h]), if_pos (show spec_l9Body.pre _ = true by simp [spec_l9Body.pre]; omega), if_pos (by simp only [Za, lim]; omega),
  if_pos (by simp only [Za, lim, List.append_eq, Zf, spec_l9Sum, sum4, Zg, Zh]; omega)]
 unfold spec_NoteBytes NoteBytes
 rw [if_pos h]
 rfl
end spec_NoteBytes
namespace impl_NoteBytes
abbrev S := List Entry × (Int × (Int × (Note × (List Int × Unit))))
def pre5 : S -> Bool := fun s => decide (s.1.length <= 40) && (decide (s.2.1 = (s.1.length : Int)) && (decide (0 <= s.2.2.1) && (decide (s.2.2.1.toNat <= s.1.length) && decide (s.2.2.2.2.1.length <= 25 + 105 * s.2.2.1.toNat))))
def fn5 : S -> Note × (List Int × Unit) := fun s => (s.2.2.2.1, (s.2.2.2.2.1 ++ ents (s.1.drop s.2.2.1.toNat), ()))
def mu5 : S -> Nat := fun s => s.1.length - s.2.2.1.toNat
noncomputable def raw5 (x1 : (List Entry)) (x2 : Int) (x3 : Int) (x4 : Note) (x5 : (List Int)) : Option (((List Entry) × (Int × (Int × (Note × zt12)))) ⊕ (Note × zt12)) :=
 if (decide (x3 < x2)) = true then
 if (decide ((0 : Int) <= x3)) = true then
 if (decide (x3 < ((length x1 : Nat) : Int))) = true then
 if (impl_nums.pre ((List.getD x1 (Int.toNat x3) zd24).1 :: ([] : List Int))) = true then
 letB (nums ((List.getD x1 (Int.toNat x3) zd24).1 :: ([] : List Int))) fun v1 =>
 letB (CmdBytes (List.getD x1 (Int.toNat x3) zd24).2.1) fun v2 =>
 if (slices_Concat_byte.pre (x5 :: (v1 :: (v2 :: ([] : List (List Int)))))) = true then
 letB (slices_Concat_byte (x5 :: (v1 :: (v2 :: ([] : List (List Int)))))) fun v3 =>
 some (.inl (x1, (x2, ((wrap .i64 (x3 + (1 : Int))), (x4, (v3, ()))))))
 else
 none
 else
 none
 else
 none
 else
 none
 else
 some (.inr (x4, (x5, ())))
abbrev wf (x0 : Note) : Prop := wfA [(.val zk18 .f)] (x0, ())
noncomputable def raw (x0 : Note) : Option (Unit × zt12) :=
 letB (NoteOk x0) fun v1 =>
 if (!v1) = true then
 some ((), (([] : List Int), ()))
 else
 if (impl_nums.pre (x0.1 :: (x0.2.1 :: ((wrap .i64 (x0.2.2.1 + (1 : Int))) :: (x0.2.2.2.1 :: (((length x0.2.2.2.2.1 : Nat) : Int) :: ([] : List Int))))))) = true then
 letB (nums (x0.1 :: (x0.2.1 :: ((wrap .i64 (x0.2.2.1 + (1 : Int))) :: (x0.2.2.2.1 :: (((length x0.2.2.2.2.1 : Nat) : Int) :: ([] : List Int))))))) fun v2 =>
 if (impl_NoteBytes.pre5 (x0.2.2.2.2.1, (((length x0.2.2.2.2.1 : Nat) : Int), ((0 : Int), (x0, (v2, ())))))) = true then
 letB (impl_NoteBytes.fn5 (x0.2.2.2.2.1, (((length x0.2.2.2.2.1 : Nat) : Int), ((0 : Int), (x0, (v2, ())))))) fun v3 =>
 if (impl_PutText.pre v3.1.2.2.2.2.2.1) = true then
 letB (PutText v3.1.2.2.2.2.2.1) fun v4 =>
 if (decide (length v3.2.1 + length v4 <= lim)) = true then
 if (impl_nums.pre (((length (List.append v3.2.1 v4) : Nat) : Int) :: ([] : List Int))) = true then
 if (decide ((0 : Int) <= (8 : Int))) = true then
 if (decide ((0 : Int) <= (16 : Int))) = true then
 if (decide ((0 : Int) <= (24 : Int))) = true then
 letB (nums (((length (List.append v3.2.1 v4) : Nat) : Int) :: ([] : List Int))) fun v5 =>
 letB (SumOf (List.append v3.2.1 v4)) fun v6 =>
 if (slices_Concat_byte.pre (v5 :: ((List.append v3.2.1 v4) :: (((wrap .u8 v6) :: ((wrap .u8 (Int.fdiv v6 (2 ^ min (Int.toNat (8 : Int)) (IntKind.bits .i64)))) :: ((wrap .u8 (Int.fdiv v6 (2 ^ min (Int.toNat (16 : Int)) (IntKind.bits .i64)))) :: ((wrap .u8 (Int.fdiv v6 (2 ^ min (Int.toNat (24 : Int)) (IntKind.bits .i64)))) :: ([] : List Int))))) :: ([] : List (List Int)))))) = true then
 letB (slices_Concat_byte (v5 :: ((List.append v3.2.1 v4) :: (((wrap .u8 v6) :: ((wrap .u8 (Int.fdiv v6 (2 ^ min (Int.toNat (8 : Int)) (IntKind.bits .i64)))) :: ((wrap .u8 (Int.fdiv v6 (2 ^ min (Int.toNat (16 : Int)) (IntKind.bits .i64)))) :: ((wrap .u8 (Int.fdiv v6 (2 ^ min (Int.toNat (24 : Int)) (IntKind.bits .i64)))) :: ([] : List Int))))) :: ([] : List (List Int)))))) fun v7 =>
 some ((), (v7, ()))
 else
 none
 else
 none
 else
 none
 else
 none
 else
 none
 else
 none
 else
 none
 else
 none
 else
 none
theorem ok5 (x1 : List Entry) (x2 x3 : Int) (x4 : Note) (x5 : List Int) (hp : pre5 (x1, (x2, (x3, (x4, (x5, ()))))) = true) : Rounds pre5 mu5 fn5 (x1, (x2, (x3, (x4, (x5, ()))))) (raw5 x1 x2 x3 x4 x5) := by
 simp only [pre5, Zb, Za] at hp
 obtain ⟨h1, rfl, h2, h3, h4⟩ := hp
 unfold raw5
 by_cases hlt : x3 < (x1.length : Int)
 . have hn : x3.toNat < x1.length := by omega
   have e1 := Zn hn
   have h5 := PutNum_len (x1[x3.toNat]).1
   have h6 := CmdBytes_len (x1[x3.toNat]).2.1
   simp only [letB]
   rw [if_pos (by simp [hlt]), if_pos (by simp [h2]), if_pos (by simp [hlt]), getD_get hn, if_pos (show impl_nums.pre _ = true by simp [impl_nums.pre, numsPre, small]),
    if_pos (show slices_Concat_byte.pre _ = true by simp [slices_Concat_byte.pre, small, nums]; omega), w64 (n := x3 + 1) (by omega) (by omega)]
   simp only [Rounds]
   have hc : slices_Concat_byte [x5, nums [(x1[x3.toNat]).1], CmdBytes (x1[x3.toNat]).2.1] = x5 ++ entB x1[x3.toNat] := by simp [slices_Concat_byte, nums, entB]
   rw [hc]
   refine ⟨?_, by simp only [mu5]; omega, ?_⟩
   . simp only [pre5, Zb, Za, Zf, entB]; exact ⟨h1, trivial, by omega, by omega, by omega⟩
   . simp only [fn5, show (x3 + 1).toNat = x3.toNat + 1 by omega, e1, ents, List.flatMap_cons, Zk]
 . rw [if_neg (by simp [hlt])]
   simp only [Rounds, fn5]
   rw [Zt (by omega)]
   simp [ents]
theorem eq (x0 : Note) (_ : wf x0) : raw x0 = some ((), (impl_NoteBytes x0, ())) := by
 unfold raw
 simp only [letB]
 by_cases h : NoteOk x0 = true
 case neg =>
  rw [if_pos (by simp [h])]
  unfold impl_NoteBytes NoteBytes
  rw [if_neg h]
 have hl := NoteOk_len h
 have hb := body_len hl
 have hp := PutNum_len ((spec_l9Body x0).length : Int)
 have hh := headB_len x0
 have hn : nums [x0.1, x0.2.1, wrap .i64 (x0.2.2.1 + 1), x0.2.2.2.1, (x0.2.2.2.2.1.length : Int)] = headB x0 := by simp [nums, headB]
 have hf : fn5 (x0.2.2.2.2.1, ((x0.2.2.2.2.1.length : Int), ((0 : Int), (x0, (headB x0, ()))))) = (x0, (headB x0 ++ ents x0.2.2.2.2.1, ())) := rfl
 have hbd : List.append (headB x0 ++ ents x0.2.2.2.2.1) (PutText x0.2.2.2.2.2.1) = spec_l9Body x0 := rfl
 have he : (headB x0 ++ ents x0.2.2.2.2.1).length + (PutText x0.2.2.2.2.2.1).length <= 40000 := by
  simp only [spec_l9Body, Zf] at hb; simp only [Zf]; omega
 rw [if_neg (by simp [h]), if_pos (show impl_nums.pre _ = true by simp [impl_nums.pre, numsPre, small]), hn,
  if_pos (show pre5 _ = true by simp only [pre5, Zb, Za]; exact ⟨hl.1, trivial, by omega, by omega, by omega⟩), hf]
 simp only [hbd]
 rw [if_pos (show impl_PutText.pre _ = true by simp [impl_PutText.pre, txtPre]; omega), if_pos (by simp only [Za, lim]; omega), if_pos (show impl_nums.pre _ = true by simp [impl_nums.pre, numsPre, small]),
  if_pos (by decide), if_pos (by decide), if_pos (by decide), if_pos (show slices_Concat_byte.pre _ = true by simp [slices_Concat_byte.pre, small, nums]; omega)]
 unfold impl_NoteBytes NoteBytes
 rw [if_pos h]
 simp [slices_Concat_byte, nums, sum4]
end impl_NoteBytes
theorem putN_lt {n : Nat} (h : n <= 127) : putN n = [(n : Int)] := by
 rw [putN, putI, if_pos h, putZ, if_pos h]; rfl
theorem putN_ge {n : Nat} (h : ¬ n <= 127) : putN n = ((n % 128 + 128 : Nat) : Int) :: putN (n / 128) := by
 rw [putN, putI, if_neg h, putZ, if_neg h]; rfl
theorem isBytes_tail {a : Int} {r : List Int} (h : isBytes (a :: r) = true) : 0 <= a /\ a <= 255 /\ isBytes r = true := by
 simp only [isBytes, List.all_cons, Zb, Za] at h
 exact ⟨h.1.1, h.1.2, h.2⟩
theorem isBytes_drop {b : List Int} (h : isBytes b = true) (n : Nat) : isBytes (b.drop n) = true :=
 Zu.2 fun _ hx => Zu.1 h _ (List.mem_of_mem_drop hx)
theorem isBytes_take {b : List Int} (h : isBytes b = true) (n : Nat) : isBytes (b.take n) = true :=
 Zu.2 fun _ hx => Zu.1 h _ (List.mem_of_mem_take hx)
theorem isBytes_dropTake {b : List Int} (h : isBytes b = true) (n m : Nat) : isBytes (dropTake n m b) = true := isBytes_take (isBytes_drop h _) _
theorem gn_put : (f k : Nat) -> (l : List Int) -> (acc n : Int) -> (c : Nat) -> isBytes l = true -> gn (some none) f k l acc = some (some (n, c)) ->
 ∃ m : Nat, n = acc + m * 128 ^ k /\ k < c /\ c <= k + l.length /\ l.take (c - k) = putN m /\ (0 < k -> 0 < m) /\ n <= 2147483647
 | 0, _, _, _, _, _, _, h => by cases h
 | _ + 1, _, [], _, _, _, _, h => by cases h
 | f + 1, k, a :: r, acc, n, c, hb, h => by
  obtain ⟨h0, h1, hr⟩ := isBytes_tail hb
  simp only [gn] at h
  by_cases hs : a < 128
  . rw [if_pos hs] at h
    by_cases hz : 0 < k /\ a = 0
    . rw [if_pos hz] at h; cases h
    rw [if_neg hz] at h
    by_cases hg : 2147483647 < acc + a % 128 * 128 ^ k
    . rw [if_pos hg] at h; cases h
    rw [if_neg hg] at h
    cases h
    have ha : a % 128 = a := by omega
    have hat : ((a.toNat : Nat) : Int) = a := by omega
    refine ⟨a.toNat, by rw [hat, ha], by omega, by simp, ?_, by omega, by omega⟩
    rw [putN_lt (by omega), show k + 1 - k = 1 by omega, hat]; rfl
  . rw [if_neg hs] at h
    obtain ⟨m, e1, e2, e3, e4, e5, e6⟩ := gn_put f (k + 1) r _ n c hr h
    have hm := e5 (by omega)
    refine ⟨(a % 128).toNat + 128 * m, ?_, by omega, by rw [Zg]; omega, ?_, by omega, e6⟩
    . have : (((a % 128).toNat + 128 * m : Nat) : Int) = a % 128 + m * 128 := by omega
      rw [e1, this, Int.add_mul, Int.pow_succ, Int.mul_assoc, Int.mul_comm (128 ^ k) 128, Int.add_assoc]
    . rw [putN_ge (by omega), show c - k = (c - (k + 1)) + 1 by omega, List.take_succ_cons, e4, show ((a % 128).toNat + 128 * m) / 128 = m by omega]
      congr 1
      omega
theorem GetNum_put {b : List Int} {i : Int} (hb : isBytes b = true) (h : (GetNum b i).2.2 = true) :
 0 <= i /\ 0 <= (GetNum b i).1 /\ (GetNum b i).1 <= 2147483647 /\ i < (GetNum b i).2.1 /\ (GetNum b i).2.1 <= (b.length : Int) /\ dropTake i.toNat (GetNum b i).2.1.toNat b = PutNum (GetNum b i).1 := by
 unfold GetNum at *
 by_cases hi : i < 0
 . rw [if_pos hi] at h; cases h
 rw [if_neg hi] at *
 generalize hg : gn (some none) 5 0 (b.drop i.toNat) 0 = r at *
 match r with
 | none => cases h
 | some none => cases h
 | some (some (n, c)) =>
  obtain ⟨m, e1, e2, e3, e4, _, e6⟩ := gn_put 5 0 _ 0 n c (isBytes_drop hb _) hg
  simp only [gnRes]
  have e1' : n = (m : Int) := by rw [e1]; simp
  have hl : c <= b.length - i.toNat := by simpa using e3
  refine ⟨by omega, by omega, e6, by omega, by omega, ?_⟩
  rw [dropTake, show (i + (c : Int)).toNat - i.toNat = c - 0 by omega, e4, PutNum, if_pos (by omega), show n.toNat = m by omega]
theorem GetNum_le {b : List Int} {i : Int} (hb : isBytes b = true) : 0 <= (GetNum b i).1 /\ (GetNum b i).1 <= 2147483647 := by
 by_cases h : (GetNum b i).2.2 = true
 . have := GetNum_put hb h
   omega
 . unfold GetNum at *
   split
   . decide
   . rename_i hi
     rw [if_neg hi] at h
     generalize gn (some none) 5 0 (b.drop i.toNat) 0 = r at *
     match r with
     | none => simp [gnRes]
     | some none => simp [gnRes]
     | some (some (n, c)) => exact absurd rfl h
theorem impl_GetNum_le {b : List Int} {i : Int} (hb : isBytes b = true) : 0 <= (impl_GetNum b i).1 /\ (impl_GetNum b i).1 <= 2147483647 := by
 unfold impl_GetNum
 split
 . decide
 . exact GetNum_le hb
theorem impl_GetNum_pos {b : List Int} {i : Int} (h : (impl_GetNum b i).2.2 = true) : impl_GetNum b i = GetNum b i := by
 unfold impl_GetNum at *
 split
 . rename_i hi; rw [if_pos hi] at h; cases h
 . rfl
theorem impl_GetNum_eq {b : List Int} {i : Int} (hb : b.length <= 9223372036854775802) : impl_GetNum b i = GetNum b i := by
 unfold impl_GetNum
 split
 . unfold GetNum
   rw [if_neg (by omega), Zt (by omega)]; rfl
 . rfl
def txtV (b : List Int) (v : Int × (Int × Bool)) : List UInt8 × (Int × Bool) :=
 if v.2.2 = true then
  if (b.length : Int) - v.2.1 < v.1 then ([], (0, false))
  else (strOf (dropTake v.2.1.toNat (v.2.1 + v.1).toNat b), (v.2.1 + v.1, true))
 else ([], (0, false))
def spec_GetText (b : List Int) (i : Int) : List UInt8 × (Int × Bool) := txtV b (GetNum b i)
def impl_GetText (b : List Int) (i : Int) : List UInt8 × (Int × Bool) := txtV b (impl_GetNum b i)
namespace spec_GetText
abbrev wf (x0 : (List Int)) (x1 : Int) : Prop := wfA [(.val zk20 .f), (.val (.int .i64) .f)] (x0, (x1, ()))
noncomputable def raw (x0 : (List Int)) (x1 : Int) : Option (Unit × ((List UInt8) × zt36)) :=
 letB (GetNum x0 x1) fun v1 =>
 if (!v1.2.2) = true then
 some ((), (([] : List UInt8), zd29))
 else
 if (decide ((wrap .i64 (((length x0 : Nat) : Int) - v1.2.1)) < v1.1)) = true then
 some ((), (([] : List UInt8), zd29))
 else
 if (decide ((0 : Int) <= v1.2.1)) = true then
 if (decide (v1.2.1 <= (wrap .i64 (v1.2.1 + v1.1)))) = true then
 if (decide ((wrap .i64 (v1.2.1 + v1.1)) <= ((length x0 : Nat) : Int))) = true then
 some ((), ((strOf (dropTake (Int.toNat v1.2.1) (Int.toNat (wrap .i64 (v1.2.1 + v1.1))) x0)), ((wrap .i64 (v1.2.1 + v1.1)), (true, ()))))
 else
 none
 else
 none
 else
 none
theorem eq (x0 : List Int) (x1 : Int) (hw : wf x0 x1) : raw x0 x1 = some ((), ((spec_GetText x0 x1).1, ((spec_GetText x0 x1).2.1, ((spec_GetText x0 x1).2.2, ())))) := by
 have h1 : x0.length <= maxLen := hw.1.1
 have hM := maxLen_eq
 have hb : isBytes x0 = true := isBytes_of hw.1.2
 unfold raw spec_GetText txtV
 simp only [letB]
 by_cases h : (GetNum x0 x1).2.2 = true
 case neg => rw [if_pos (by simp [h]), if_neg h]
 obtain ⟨g0, g1, g2, g3, g4, _⟩ := GetNum_put hb h
 rw [if_neg (by simp [h]), if_pos h, w64 (n := (x0.length : Int) - _) (by omega) (by omega)]
 by_cases hl : (x0.length : Int) - (GetNum x0 x1).2.1 < (GetNum x0 x1).1
 . rw [if_pos (by simp [hl]), if_pos hl]
 . rw [if_neg (by simp only [Za]; exact hl), if_neg hl, w64 (n := (GetNum x0 x1).2.1 + _) (by omega) (by omega), if_pos (by simp only [Za]; omega), if_pos (by simp only [Za]; omega), if_pos (by simp only [Za]; omega)]
end spec_GetText
namespace impl_GetText
abbrev wf (x0 : (List Int)) (x1 : Int) : Prop := wfA [(.val zk20 .f), (.val (.int .i64) .f)] (x0, (x1, ()))
noncomputable def raw (x0 : (List Int)) (x1 : Int) : Option (Unit × ((List UInt8) × zt36)) :=
 letB (impl_GetNum x0 x1) fun v1 =>
 if (!v1.2.2) = true then
 some ((), (([] : List UInt8), zd29))
 else
 if (decide ((wrap .i64 (((length x0 : Nat) : Int) - v1.2.1)) < v1.1)) = true then
 some ((), (([] : List UInt8), zd29))
 else
 if (decide ((0 : Int) <= v1.2.1)) = true then
 if (decide (v1.2.1 <= (wrap .i64 (v1.2.1 + v1.1)))) = true then
 if (decide ((wrap .i64 (v1.2.1 + v1.1)) <= ((length x0 : Nat) : Int))) = true then
 some ((), ((strOf (dropTake (Int.toNat v1.2.1) (Int.toNat (wrap .i64 (v1.2.1 + v1.1))) x0)), ((wrap .i64 (v1.2.1 + v1.1)), (true, ()))))
 else
 none
 else
 none
 else
 none
theorem eq (x0 : List Int) (x1 : Int) (hw : wf x0 x1) : raw x0 x1 = some ((), ((impl_GetText x0 x1).1, ((impl_GetText x0 x1).2.1, ((impl_GetText x0 x1).2.2, ())))) := by
 have h1 : x0.length <= maxLen := hw.1.1
 have hM := maxLen_eq
 have hb : isBytes x0 = true := isBytes_of hw.1.2
 unfold raw impl_GetText txtV
 simp only [letB]
 by_cases h : (impl_GetNum x0 x1).2.2 = true
 case neg => rw [if_pos (by simp [h]), if_neg h]
 have hg := impl_GetNum_pos h
 rw [hg] at h ⊢
 obtain ⟨g0, g1, g2, g3, g4, _⟩ := GetNum_put hb h
 rw [if_neg (by simp [h]), if_pos h, w64 (n := (x0.length : Int) - _) (by omega) (by omega)]
 by_cases hl : (x0.length : Int) - (GetNum x0 x1).2.1 < (GetNum x0 x1).1
 . rw [if_pos (by simp [hl]), if_pos hl]
 . rw [if_neg (by simp only [Za]; exact hl), if_neg hl, w64 (n := (GetNum x0 x1).2.1 + _) (by omega) (by omega), if_pos (by simp only [Za]; omega), if_pos (by simp only [Za]; omega), if_pos (by simp only [Za]; omega)]
end impl_GetText
abbrev R := List Int × zt36
abbrev GN := List Int -> Int -> Int × (Int × Bool)
def rNum (g : GN) (good : Bool) (s : R) : R × Int :=
 if s.2.2.1 = good /\ (g s.1 s.2.1).2.2 = true then ((s.1, ((g s.1 s.2.1).2.1, (good, ()))), (g s.1 s.2.1).1) else ((s.1, (s.2.1, (!good, ()))), 0)
def rTxt (g : GN) (good : Bool) (s : R) : R × List UInt8 :=
 if s.2.2.1 = good /\ (txtV s.1 (g s.1 s.2.1)).2.2 = true then ((s.1, ((txtV s.1 (g s.1 s.2.1)).2.1, (good, ()))), (txtV s.1 (g s.1 s.2.1)).1) else ((s.1, (s.2.1, (!good, ()))), [])
def rCmd (num : R -> R × Int) (txt : R -> R × List UInt8) (s : R) : R × Cmd :=
 letB (num s) fun v1 => letB (num v1.1) fun v2 => letB (num v2.1) fun v3 => letB (num v3.1) fun v4 => letB (num v4.1) fun v5 => letB (num v5.1) fun v6 => letB (txt v6.1) fun v7 => letB (txt v7.1) fun v8 =>
 (v8.1, (wrap .i64 (v1.2 - 1), (v2.2, (v3.2, (v4.2, (v5.2, (v6.2, (v7.2, (v8.2, ())))))))))
def spec_l7Num (s : R) : R × Int := rNum GetNum true s
def spec_l7Text (s : R) : R × List UInt8 := rTxt GetNum true s
def spec_l7Cmd (s : R) : R × Cmd := rCmd spec_l7Num spec_l7Text s
def reader_num (s : R) : R × Int := rNum impl_GetNum false s
def reader_text (s : R) : R × List UInt8 := rTxt impl_GetNum false s
def reader_cmd (s : R) : R × Cmd :=
 letB (rCmd reader_num reader_text s) fun p => if p.1.2.2.1 = true then ((p.1.1, (p.1.2.1, (true, ()))), p.2) else ((p.1.1, (p.1.2.1, (!CmdOk p.2, ()))), p.2)
namespace spec_l7Num
abbrev wf (x0 : zt13) : Prop := wfA [(.ref zk26 .f)] (x0, ())
noncomputable def raw (x0 : zt13) : Option ((zt13 × Unit) × (Int × Unit)) :=
 letB (GetNum x0.1 x0.2.1) fun v1 =>
 if (!v1.2.2) = true then
 some (((x0.1, (x0.2.1, (false, x0.2.2.2))), ()), ((0 : Int), ()))
 else
 if (!x0.2.2.1) = true then
 some (((x0.1, (x0.2.1, (false, x0.2.2.2))), ()), ((0 : Int), ()))
 else
 some (((x0.1, (v1.2.1, x0.2.2)), ()), (v1.1, ()))
theorem eq (x0 : R) (_ : wf x0) : raw x0 = some (((spec_l7Num x0).1, ()), ((spec_l7Num x0).2, ())) := by
 obtain ⟨b, i, f, _⟩ := x0
 unfold raw spec_l7Num rNum
 simp only [letB]
 cases hg : (GetNum b i).2.2 <;> cases f <;> simp
end spec_l7Num
namespace spec_l7Text
abbrev wf (x0 : zt13) : Prop := wfA [(.ref zk26 .f)] (x0, ())
noncomputable def raw (x0 : zt13) : Option ((zt13 × Unit) × zt33) :=
 letB (spec_GetText x0.1 x0.2.1) fun v1 =>
 if (!v1.2.2) = true then
 some (((x0.1, (x0.2.1, (false, x0.2.2.2))), ()), (([] : List UInt8), ()))
 else
 if (!x0.2.2.1) = true then
 some (((x0.1, (x0.2.1, (false, x0.2.2.2))), ()), (([] : List UInt8), ()))
 else
 some (((x0.1, (v1.2.1, x0.2.2)), ()), (v1.1, ()))
theorem eq (x0 : R) (_ : wf x0) : raw x0 = some (((spec_l7Text x0).1, ()), ((spec_l7Text x0).2, ())) := by
 obtain ⟨b, i, f, _⟩ := x0
 unfold raw spec_l7Text rTxt spec_GetText
 simp only [letB]
 cases hg : (txtV b (GetNum b i)).2.2 <;> cases f <;> simp
end spec_l7Text
namespace reader_num
abbrev wf (x0 : zt13) : Prop := wfA [(.ref zk26 .f)] (x0, ())
noncomputable def raw (x0 : zt13) : Option ((zt13 × Unit) × (Int × Unit)) :=
 if x0.2.2.1 = true then
 some (((x0.1, (x0.2.1, (true, x0.2.2.2))), ()), ((0 : Int), ()))
 else
 letB (impl_GetNum x0.1 x0.2.1) fun v1 =>
 if (!v1.2.2) = true then
 some (((x0.1, (x0.2.1, (true, x0.2.2.2))), ()), ((0 : Int), ()))
 else
 some (((x0.1, (v1.2.1, x0.2.2)), ()), (v1.1, ()))
theorem eq (x0 : R) (_ : wf x0) : raw x0 = some (((reader_num x0).1, ()), ((reader_num x0).2, ())) := by
 obtain ⟨b, i, f, _⟩ := x0
 unfold raw reader_num rNum
 simp only [letB]
 cases hg : (impl_GetNum b i).2.2 <;> cases f <;> simp
end reader_num
namespace reader_text
abbrev wf (x0 : zt13) : Prop := wfA [(.ref zk26 .f)] (x0, ())
noncomputable def raw (x0 : zt13) : Option ((zt13 × Unit) × zt33) :=
 if x0.2.2.1 = true then
 some (((x0.1, (x0.2.1, (true, x0.2.2.2))), ()), (([] : List UInt8), ()))
 else
 letB (impl_GetText x0.1 x0.2.1) fun v1 =>
 if (!v1.2.2) = true then
 some (((x0.1, (x0.2.1, (true, x0.2.2.2))), ()), (([] : List UInt8), ()))
 else
 some (((x0.1, (v1.2.1, x0.2.2)), ()), (v1.1, ()))
theorem eq (x0 : R) (_ : wf x0) : raw x0 = some (((reader_text x0).1, ()), ((reader_text x0).2, ())) := by
 obtain ⟨b, i, f, _⟩ := x0
 unfold raw reader_text rTxt impl_GetText
 simp only [letB]
 cases hg : (txtV b (impl_GetNum b i)).2.2 <;> cases f <;> simp
end reader_text
namespace spec_l7Cmd
abbrev wf (x0 : zt13) : Prop := wfA [(.ref zk26 .f)] (x0, ())
noncomputable def raw (x0 : zt13) : Option ((zt13 × Unit) × (Cmd × Unit)) :=
 letB (spec_l7Num x0) fun v1 =>
 letB (spec_l7Num v1.1) fun v2 =>
 letB (spec_l7Num v2.1) fun v3 =>
 letB (spec_l7Num v3.1) fun v4 =>
 letB (spec_l7Num v4.1) fun v5 =>
 letB (spec_l7Num v5.1) fun v6 =>
 letB (spec_l7Text v6.1) fun v7 =>
 letB (spec_l7Text v7.1) fun v8 =>
 some ((v8.1, ()), (((wrap .i64 (v1.2 - (1 : Int))), (v2.2, (v3.2, (v4.2, (v5.2, (v6.2, (v7.2, (v8.2, ())))))))), ()))
theorem eq (x0 : R) (_ : wf x0) : raw x0 = some (((spec_l7Cmd x0).1, ()), ((spec_l7Cmd x0).2, ())) := by
 unfold raw spec_l7Cmd rCmd
 simp only [letB]
end spec_l7Cmd
namespace reader_cmd
abbrev wf (x0 : zt13) : Prop := wfA [(.ref zk26 .f)] (x0, ())
noncomputable def raw (x0 : zt13) : Option ((zt13 × Unit) × (Cmd × Unit)) :=
 letB (reader_num x0) fun v1 =>
 letB (reader_num v1.1) fun v2 =>
 letB (reader_num v2.1) fun v3 =>
 letB (reader_num v3.1) fun v4 =>
 letB (reader_num v4.1) fun v5 =>
 letB (reader_num v5.1) fun v6 =>
 letB (reader_text v6.1) fun v7 =>
 letB (reader_text v7.1) fun v8 =>
 if v8.1.2.2.1 = true then
 some (((v8.1.1, (v8.1.2.1, (true, v8.1.2.2.2))), ()), (((wrap .i64 (v1.2 - (1 : Int))), (v2.2, (v3.2, (v4.2, (v5.2, (v6.2, (v7.2, (v8.2, ())))))))), ()))
 else
 letB (CmdOk ((wrap .i64 (v1.2 - (1 : Int))), (v2.2, (v3.2, (v4.2, (v5.2, (v6.2, (v7.2, (v8.2, ()))))))))) fun v9 =>
 some (((v8.1.1, (v8.1.2.1, ((!v9), v8.1.2.2.2))), ()), (((wrap .i64 (v1.2 - (1 : Int))), (v2.2, (v3.2, (v4.2, (v5.2, (v6.2, (v7.2, (v8.2, ())))))))), ()))
theorem eq (x0 : R) (_ : wf x0) : raw x0 = some (((reader_cmd x0).1, ()), ((reader_cmd x0).2, ())) := by
 unfold raw reader_cmd rCmd
 simp only [letB]
 split
 . rename_i hf; simp only [hf, if_true]
 . rename_i hf; simp only [hf, if_false, Zj]
end reader_cmd
def rEnts (num : R -> R × Int) (cmd : R -> R × Cmd) (good : Bool) : Nat -> R -> List Entry -> R × List Entry
 | 0, s, xs => (s, xs)
 | n + 1, s, xs => if s.2.2.1 = good then rEnts num cmd good n (cmd (num s).1).1 (xs ++ [((num s).2, ((cmd (num s).1).2, ()))]) else (s, xs)
def rNote (num : R -> R × Int) (txt : R -> R × List UInt8) (cmd : R -> R × Cmd) (good : Bool) (s : R) : R × Note :=
 letB (num s) fun v1 => letB (num v1.1) fun v2 => letB (num v2.1) fun v3 => letB (num v3.1) fun v4 => letB (num v4.1) fun v5 =>
 letB (rEnts num cmd good v5.2.toNat v5.1 []) fun v6 => letB (txt v6.1) fun v7 =>
 (v7.1, (v1.2, (v2.2, (wrap .i64 (v3.2 - 1), (v4.2, (v6.2, (v7.2, ())))))))
def spec_l9Read (s : R) : R × Note := rNote spec_l7Num spec_l7Text spec_l7Cmd true s
theorem rNum_b (g : GN) (good : Bool) (s : R) : (rNum g good s).1.1 = s.1 := by unfold rNum; split <;> rfl
theorem spec_l7Num_b (s : R) : (spec_l7Num s).1.1 = s.1 := rNum_b _ _ s
theorem spec_l7Num_le {s : R} (hb : isBytes s.1 = true) : 0 <= (spec_l7Num s).2 /\ (spec_l7Num s).2 <= 2147483647 := by
 unfold spec_l7Num rNum
 split
 . exact GetNum_le hb
 . simp only; decide
theorem reader_num_le {s : R} (hb : isBytes s.1 = true) : 0 <= (reader_num s).2 /\ (reader_num s).2 <= 2147483647 := by
 unfold reader_num rNum
 split
 . exact impl_GetNum_le hb
 . simp only; decide
namespace spec_l9Read
def pre (_ : R) : Bool := true
abbrev T := Int × zt16
abbrev S := Int × (Int × (R × T))
def pre8 : S -> Bool := fun s => decide (s.1 <= 2147483647) && (decide (0 <= s.2.1) && decide ((s.2.2.2.2.2.2.2.2.2.2.2.2.2.2.1.length : Int) <= s.2.1))
def fn8 : S -> R × T := fun (n, i, r, x4, x5, x6, x7, x8, x9, x10, x11, x12, x13, x14, x15, _) =>
 ((rEnts spec_l7Num spec_l7Cmd true (n - i).toNat r x15).1, (x4, (x5, (x6, (x7, (x8, (x9, (x10, (x11, (x12, (x13, (x14, ((rEnts spec_l7Num spec_l7Cmd true (n - i).toNat r x15).2, ())))))))))))))
def mu8 : S -> Nat := fun s => (s.1 - s.2.1).toNat
noncomputable def raw8 (x1 : Int) (x2 : Int) (x3 : zt13) (x4 : Int) (x5 : Int) (x6 : Int) (x7 : Int) (x8 : zt33) (x9 : (List Entry)) (x10 : Int) (x11 : Int) (x12 : Int) (x13 : Int) (x14 : zt33) (x15 : (List Entry)) : Option ((Int × (Int × (zt13 × (Int × zt16)))) ⊕ (zt13 × (Int × zt16))) :=
 if (decide (x2 < x1)) = true then
 if x3.2.2.1 = true then
 letB (spec_l7Num x3) fun v1 =>
 letB (spec_l7Cmd v1.1) fun v2 =>
 if (decide (length x15 + length ((v1.2, (v2.2, ())) :: ([] : List Entry)) <= lim)) = true then
 some (.inl (x1, ((wrap .i64 (x2 + (1 : Int))), (v2.1, (x4, (x5, (x6, (x7, (x8, (x9, (x10, (x11, (x12, (x13, (x14, ((List.append x15 ((v1.2, (v2.2, ())) :: ([] : List Entry))), ()))))))))))))))))
 else
 none
 else
 some (.inr (x3, (x4, (x5, (x6, (x7, (x8, (x9, (x10, (x11, (x12, (x13, (x14, (x15, ()))))))))))))))
 else
 some (.inr (x3, (x4, (x5, (x6, (x7, (x8, (x9, (x10, (x11, (x12, (x13, (x14, (x15, ()))))))))))))))
abbrev wf (x0 : zt13) : Prop := wfA [(.ref zk26 .f)] (x0, ())
noncomputable def raw (x0 : zt13) : Option ((zt13 × Unit) × (Note × Unit)) :=
 letB (spec_l7Num x0) fun v1 =>
 letB (spec_l7Num v1.1) fun v2 =>
 letB (spec_l7Num v2.1) fun v3 =>
 letB (spec_l7Num v3.1) fun v4 =>
 letB (spec_l7Num v4.1) fun v5 =>
 if (spec_l9Read.pre8 (v5.2, ((0 : Int), (v5.1, ((0 : Int), ((0 : Int), ((0 : Int), ((0 : Int), ((([] : List UInt8), ()), (([] : List Entry), (v1.2, (v2.2, ((wrap .i64 (v3.2 - (1 : Int))), (v4.2, ((([] : List UInt8), ()), (([] : List Entry), ())))))))))))))))) = true then
 letB (spec_l9Read.fn8 (v5.2, ((0 : Int), (v5.1, ((0 : Int), ((0 : Int), ((0 : Int), ((0 : Int), ((([] : List UInt8), ()), (([] : List Entry), (v1.2, (v2.2, ((wrap .i64 (v3.2 - (1 : Int))), (v4.2, ((([] : List UInt8), ()), (([] : List Entry), ())))))))))))))))) fun v6 =>
 letB (spec_l7Text v6.1) fun v7 =>
 some ((v7.1, ()), ((v6.2.2.2.2.2.2.2.1, (v6.2.2.2.2.2.2.2.2.1, (v6.2.2.2.2.2.2.2.2.2.1, (v6.2.2.2.2.2.2.2.2.2.2.1, (v6.2.2.2.2.2.2.2.2.2.2.2.2.1, (v7.2, v6.2.2.2.2.2.2.2.2.2.2.2.1.2)))))), ()))
 else
 none
theorem ok8 (x1 x2 : Int) (x3 : R) (x4 x5 x6 x7 : Int) (x8 : (List UInt8) × Unit) (x9 : List Entry) (x10 x11 x12 x13 : Int) (x14 : (List UInt8) × Unit) (x15 : List Entry)
 (hp : pre8 (x1, (x2, (x3, (x4, (x5, (x6, (x7, (x8, (x9, (x10, (x11, (x12, (x13, (x14, (x15, ()))))))))))))))) = true) :
 Rounds pre8 mu8 fn8 (x1, (x2, (x3, (x4, (x5, (x6, (x7, (x8, (x9, (x10, (x11, (x12, (x13, (x14, (x15, ()))))))))))))))) (raw8 x1 x2 x3 x4 x5 x6 x7 x8 x9 x10 x11 x12 x13 x14 x15) := by
 simp only [pre8, Zb, Za] at hp
 obtain ⟨h1, h2, h3⟩ := hp
 unfold raw8
 simp only [letB]
 by_cases hlt : x2 < x1
 . have hs : (x1 - x2).toNat = (x1 - (x2 + 1)).toNat + 1 := by omega
   rw [if_pos (by simp [hlt])]
   by_cases hf : x3.2.2.1 = true
   . rw [if_pos hf, if_pos (by simp only [Za, lim, Zg, Zh]; omega), w64 (n := x2 + 1) (by omega) (by omega)]
     simp only [Rounds]
     refine ⟨?_, by simp only [mu8]; omega, ?_⟩
     . simp only [pre8, Zb, Za, List.append_eq, Zf, Zg, Zh]; omega
     . simp only [fn8, hs, rEnts, if_pos hf, List.append_eq]
   . rw [if_neg hf]
     simp only [Rounds, fn8, hs, rEnts, if_neg hf]
 . rw [if_neg (by simp [hlt])]
   simp only [Rounds, fn8]
   rw [show (x1 - x2).toNat = 0 by omega]
   rfl
theorem eq (x0 : R) (hw : wf x0) (_ : pre x0 = true) : raw x0 = some (((spec_l9Read x0).1, ()), ((spec_l9Read x0).2, ())) := by
 have hb : isBytes x0.1 = true := isBytes_of hw.1.1.2
 unfold raw spec_l9Read rNote
 simp only [letB]
 have h5 : isBytes (spec_l7Num (spec_l7Num (spec_l7Num (spec_l7Num x0).1).1).1).1.1 = true := by simp only [spec_l7Num_b]; exact hb
 have hn := spec_l7Num_le h5
 rw [if_pos (show pre8 _ = true by simp only [pre8, Zb, Za, Zh]; omega)]
 simp only [fn8, Int.sub_zero]
end spec_l9Read
def impl_noteIn_1 (s : R) (r : Note) : R × Note :=
 ((reader_cmd (reader_num s).1).1, (r.1, (r.2.1, (r.2.2.1, (r.2.2.2.1, (r.2.2.2.2.1 ++ [((reader_num s).2, ((reader_cmd (reader_num s).1).2, ()))], r.2.2.2.2.2))))))
namespace impl_noteIn_1
def pre (_ : R) (r : Note) : Bool := decide (r.2.2.2.2.1.length <= 4000000000)
abbrev wf (x0 : zt13) (x1 : Note) : Prop := wfA [(.cell 1 zk26), (.ref zk26 .f), (.ref zk18 .o)] (x0, (x1, ()))
noncomputable def raw (x0 : zt13) (x1 : Note) : Option ((zt13 × (Note × Unit)) × Unit) :=
 letB (reader_num x0) fun v1 =>
 letB (reader_cmd v1.1) fun v2 =>
 if (decide (length x1.2.2.2.2.1 + length ((v1.2, (v2.2, ())) :: ([] : List Entry)) <= lim)) = true then
 some ((v2.1, ((x1.1, (x1.2.1, (x1.2.2.1, (x1.2.2.2.1, ((List.append x1.2.2.2.2.1 ((v1.2, (v2.2, ())) :: ([] : List Entry))), x1.2.2.2.2.2))))), ())), ())
 else
 none
theorem eq (x0 : R) (x1 : Note) (_ : wf x0 x1) (hp : pre x0 x1 = true) : raw x0 x1 = some (((impl_noteIn_1 x0 x1).1, ((impl_noteIn_1 x0 x1).2, ())), ()) := by
 simp only [pre, Za] at hp
 unfold raw
 simp only [letB]
 rw [if_pos (by simp only [Za, lim, Zg, Zh]; omega)]
 rfl
end impl_noteIn_1
def each_noteIn_1 (s : R) (r : Note) : R × Note :=
 letB (reader_num s) fun v1 => letB (rEnts reader_num reader_cmd false v1.2.toNat v1.1 r.2.2.2.2.1) fun v2 =>
 (v2.1, (r.1, (r.2.1, (r.2.2.1, (r.2.2.2.1, (v2.2, r.2.2.2.2.2))))))
namespace each_noteIn_1
def pre (_ : R) (r : Note) : Bool := decide (r.2.2.2.2.1.length <= 1000)
abbrev S := Int × (Int × (R × zt40))
def pre2 : S -> Bool := fun s => decide (s.1 <= 2147483647) && (decide (0 <= s.2.1) && decide ((s.2.2.2.2.2.2.2.2.1.length : Int) <= s.2.1 + 1000))
def fn2 : S -> R × zt40 := fun (n, i, r, x4, x5, x6, x7, x8, x9, _) =>
 ((rEnts reader_num reader_cmd false (n - i).toNat r x9).1, (x4, (x5, (x6, (x7, (x8, ((rEnts reader_num reader_cmd false (n - i).toNat r x9).2, ())))))))
def mu2 : S -> Nat := fun s => (s.1 - s.2.1).toNat
noncomputable def raw2 (x1 : Int) (x2 : Int) (x3 : zt13) (x4 : Int) (x5 : Int) (x6 : Int) (x7 : Int) (x8 : zt33) (x9 : (List Entry)) : Option ((Int × (Int × (zt13 × zt40))) ⊕ (zt13 × zt40)) :=
 if (decide (x2 < x1)) = true then
 if (!x3.2.2.1) = true then
 if (impl_noteIn_1.pre x3 (x4, (x5, (x6, (x7, (x9, x8)))))) = true then
 letB (impl_noteIn_1 x3 (x4, (x5, (x6, (x7, (x9, x8)))))) fun v1 =>
 some (.inl (x1, ((wrap .i64 (x2 + (1 : Int))), (v1.1, (v1.2.1, (v1.2.2.1, (v1.2.2.2.1, (v1.2.2.2.2.1, (v1.2.2.2.2.2.2, (v1.2.2.2.2.2.1, ()))))))))))
 else
 none
 else
 some (.inr (x3, (x4, (x5, (x6, (x7, (x8, (x9, ()))))))))
 else
 some (.inr (x3, (x4, (x5, (x6, (x7, (x8, (x9, ()))))))))
abbrev wf (x0 : zt13) (x1 : Note) : Prop := wfA [(.ref zk26 .f), (.cell 0 zk26), (.ref zk18 .o)] (x0, (x1, ()))
noncomputable def raw (x0 : zt13) (x1 : Note) : Option ((zt13 × (Note × Unit)) × Unit) :=
 letB (reader_num x0) fun v1 =>
 if (each_noteIn_1.pre2 (v1.2, ((0 : Int), (v1.1, (x1.1, (x1.2.1, (x1.2.2.1, (x1.2.2.2.1, (x1.2.2.2.2.2, (x1.2.2.2.2.1, ())))))))))) = true then
 letB (each_noteIn_1.fn2 (v1.2, ((0 : Int), (v1.1, (x1.1, (x1.2.1, (x1.2.2.1, (x1.2.2.2.1, (x1.2.2.2.2.2, (x1.2.2.2.2.1, ())))))))))) fun v2 =>
 some ((v2.1, ((v2.2.1, (v2.2.2.1, (v2.2.2.2.1, (v2.2.2.2.2.1, (v2.2.2.2.2.2.2.1, v2.2.2.2.2.2.1))))), ())), ())
 else
 none
theorem ok2 (x1 x2 : Int) (x3 : R) (x4 x5 x6 x7 : Int) (x8 : (List UInt8) × Unit) (x9 : List Entry)
 (hp : pre2 (x1, (x2, (x3, (x4, (x5, (x6, (x7, (x8, (x9, ()))))))))) = true) :
 Rounds pre2 mu2 fn2 (x1, (x2, (x3, (x4, (x5, (x6, (x7, (x8, (x9, ()))))))))) (raw2 x1 x2 x3 x4 x5 x6 x7 x8 x9) := by
 simp only [pre2, Zb, Za] at hp
 obtain ⟨h1, h2, h3⟩ := hp
 unfold raw2
 simp only [letB]
 by_cases hlt : x2 < x1
 . have hs : (x1 - x2).toNat = (x1 - (x2 + 1)).toNat + 1 := by omega
   rw [if_pos (by simp [hlt])]
   by_cases hf : x3.2.2.1 = false
   . rw [if_pos (by simp [hf]), if_pos (show impl_noteIn_1.pre _ _ = true by simp [impl_noteIn_1.pre]; omega), w64 (n := x2 + 1) (by omega) (by omega)]
     simp only [Rounds]
     refine ⟨?_, by simp only [mu2]; omega, ?_⟩
     . simp only [pre2, impl_noteIn_1, Zb, Za, Zf, Zg, Zh]; omega
     . simp only [fn2, impl_noteIn_1, hs, rEnts, if_pos hf]
   . rw [if_neg (by simpa using hf)]
     simp only [Rounds, fn2, hs, rEnts, if_neg hf]
 . rw [if_neg (by simp [hlt])]
   simp only [Rounds, fn2]
   rw [show (x1 - x2).toNat = 0 by omega]
   rfl
theorem eq (x0 : R) (x1 : Note) (hw : wf x0 x1) (hp : pre x0 x1 = true) : raw x0 x1 = some (((each_noteIn_1 x0 x1).1, ((each_noteIn_1 x0 x1).2, ())), ()) := by
 have hb : isBytes x0.1 = true := isBytes_of hw.1.1.2
 simp only [pre, Za] at hp
 unfold raw
 simp only [letB]
 have hn := reader_num_le hb
 rw [if_pos (show pre2 _ = true by simp only [pre2, Zb, Za]; omega)]
 simp only [fn2, Int.sub_zero]
 rfl
end each_noteIn_1
def eqI (a b : Int) : Bool := decide (a = b)
def impl_noteIn (b : List Int) : Note × Bool :=
 letB (rNote reader_num reader_text reader_cmd false (b, (0, (false, ())))) fun p => (p.2, !p.1.2.2.1 && (eqI p.1.2.1 (b.length : Int) && NoteOk p.2))
theorem nIn_fin (p : R) (r : Note) (n : Int) : (if (!p.2.2.1) = true then
 if decide (p.2.1 = n) = true then some ((), (r, (NoteOk r, ()))) else some ((), (r, (false, ())))
 else some ((), (r, (false, ())))) = some ((), (r, ((!p.2.2.1 && (eqI p.2.1 n && NoteOk r)), ()))) := by
 unfold eqI
 cases p.2.2.1
 . by_cases hl : p.2.1 = n <;> simp [hl]
 . simp
namespace impl_noteIn
def pre (_ : List Int) : Bool := true
abbrev wf (x0 : (List Int)) : Prop := wfA [(.val zk20 .f)] (x0, ())
noncomputable def raw (x0 : (List Int)) : Option (Unit × (Note × (Bool × Unit))) :=
 letB (reader_num (x0, zd29)) fun v1 =>
 letB (reader_num v1.1) fun v2 =>
 letB (reader_num v2.1) fun v3 =>
 letB (reader_num v3.1) fun v4 =>
 if (each_noteIn_1.pre v4.1 (v1.2, (v2.2, ((wrap .i64 (v3.2 - (1 : Int))), (v4.2, (([] : List Entry), (([] : List UInt8), ()))))))) = true then
 letB (each_noteIn_1 v4.1 (v1.2, (v2.2, ((wrap .i64 (v3.2 - (1 : Int))), (v4.2, (([] : List Entry), (([] : List UInt8), ()))))))) fun v5 =>
 letB (reader_text v5.1) fun v6 =>
 if (!v6.1.2.2.1) = true then
 if (decide (v6.1.2.1 = ((length x0 : Nat) : Int))) = true then
 letB (NoteOk (v5.2.1, (v5.2.2.1, (v5.2.2.2.1, (v5.2.2.2.2.1, (v5.2.2.2.2.2.1, (v6.2, v5.2.2.2.2.2.2.2))))))) fun v7 =>
 some ((), ((v5.2.1, (v5.2.2.1, (v5.2.2.2.1, (v5.2.2.2.2.1, (v5.2.2.2.2.2.1, (v6.2, v5.2.2.2.2.2.2.2)))))), (v7, ())))
 else
 some ((), ((v5.2.1, (v5.2.2.1, (v5.2.2.2.1, (v5.2.2.2.2.1, (v5.2.2.2.2.2.1, (v6.2, v5.2.2.2.2.2.2.2)))))), (false, ())))
 else
 some ((), ((v5.2.1, (v5.2.2.1, (v5.2.2.2.1, (v5.2.2.2.2.1, (v5.2.2.2.2.2.1, (v6.2, v5.2.2.2.2.2.2.2)))))), (false, ())))
 else
 none
theorem eq (x0 : List Int) (_ : wf x0) (_ : pre x0 = true) : raw x0 = some ((), ((impl_noteIn x0).1, ((impl_noteIn x0).2, ()))) := by
 unfold raw impl_noteIn rNote
 simp only [letB, each_noteIn_1]
 rw [if_pos (show each_noteIn_1.pre _ _ = true by simp [each_noteIn_1.pre])]
 exact nIn_fin _ _ _
end impl_noteIn
def Rd (s t : R) (out : List Int) : Prop :=
 t.1 = s.1 /\ (t.2.2.1 = true -> s.2.2.1 = true /\ (0 <= s.2.1 -> s.2.1 <= (s.1.length : Int) -> s.2.1 <= t.2.1 /\ t.2.1 <= (s.1.length : Int) /\ dropTake s.2.1.toNat t.2.1.toNat s.1 = out))
theorem dropTake_app {b : List Int} {i j k : Nat} (h1 : i <= j) (h2 : j <= k) : dropTake i j b ++ dropTake j k b = dropTake i k b := by
 unfold dropTake
 obtain ⟨m, rfl⟩ := Nat.exists_eq_add_of_le h1
 obtain ⟨n, rfl⟩ := Nat.exists_eq_add_of_le h2
 rw [show i + m - i = m by omega, show i + m + n - (i + m) = n by omega, show i + m + n - i = m + n by omega, List.take_add, List.drop_drop]
theorem Rd_trans {s t u : R} {o1 o2 : List Int} (h1 : Rd s t o1) (h2 : Rd t u o2) : Rd s u (o1 ++ o2) := by
 refine ⟨h2.1.trans h1.1, fun hf => ?_⟩
 obtain ⟨hf2, g2⟩ := h2.2 hf
 obtain ⟨hf1, g1⟩ := h1.2 hf2
 refine ⟨hf1, fun h0 hl => ?_⟩
 obtain ⟨a1, a2, a3⟩ := g1 h0 hl
 rw [h1.1] at g2
 obtain ⟨b1, b2, b3⟩ := g2 (by omega) a2
 refine ⟨by omega, b2, ?_⟩
 rw [<- a3, <- b3, dropTake_app (by omega) (by omega)]
theorem Rd_refl (s : R) : Rd s s [] := by
 refine ⟨rfl, fun hf => ⟨hf, fun _ hl => ⟨Int.le_refl _, hl, ?_⟩⟩⟩
 simp [dropTake]
theorem num_rd {s : R} (hb : isBytes s.1 = true) : Rd s (spec_l7Num s).1 (PutNum (spec_l7Num s).2) := by
 refine ⟨spec_l7Num_b s, fun hf => ?_⟩
 unfold spec_l7Num rNum at *
 split at hf
 . rename_i h
   rw [if_pos h]
   obtain ⟨g0, g1, g2, g3, g4, g5⟩ := GetNum_put hb h.2
   exact ⟨h.1, fun _ _ => ⟨by simp only; omega, g4, g5⟩⟩
 . cases hf
theorem bytesOf_strOf {l : List Int} (h : isBytes l = true) : bytesOf (strOf l) = l := by
 induction l with
 | nil => rfl
 | cons a r ih =>
  obtain ⟨h0, h1, h2⟩ := isBytes_tail h
  simp only [strOf, bytesOf, List.map_cons, List.map_map] at *
  rw [ih h2]
  congr 1
  rw [UInt8.toNat_ofNat']
  omega
theorem rTxt_b (g : GN) (good : Bool) (s : R) : (rTxt g good s).1.1 = s.1 := by unfold rTxt; split <;> rfl
theorem spec_l7Text_b (s : R) : (spec_l7Text s).1.1 = s.1 := rTxt_b _ _ s
theorem txt_rd {s : R} (hb : isBytes s.1 = true) : Rd s (spec_l7Text s).1 (PutText (spec_l7Text s).2) := by
 refine ⟨rTxt_b _ _ s, fun hf => ?_⟩
 unfold spec_l7Text rTxt at *
 split at hf
 case isFalse => cases hf
 rename_i h
 rw [if_pos h]
 obtain ⟨hg, h⟩ := h
 refine ⟨hg, fun h0 hl => ?_⟩
 unfold txtV at *
 by_cases hn : (GetNum s.1 s.2.1).2.2 = true
 case neg => rw [if_neg hn] at h; cases h
 rw [if_pos hn] at *
 obtain ⟨g0, g1, g2, g3, g4, g5⟩ := GetNum_put hb hn
 by_cases hs : (s.1.length : Int) - (GetNum s.1 s.2.1).2.1 < (GetNum s.1 s.2.1).1
 . rw [if_pos hs] at h; cases h
 rw [if_neg hs]
 simp only
 refine ⟨by omega, by omega, ?_⟩
 rw [PutText, bytesOf_strOf (isBytes_dropTake hb _ _), strOf_len, Go.Aw.dropTake_len (by omega) (by omega),
  show ((((GetNum s.1 s.2.1).2.1 + (GetNum s.1 s.2.1).1).toNat - (GetNum s.1 s.2.1).2.1.toNat : Nat) : Int) = (GetNum s.1 s.2.1).1 by omega, <- g5, dropTake_app (by omega) (by omega)]
theorem cmd_rd {s : R} (hb : isBytes s.1 = true) (hok : CmdOk (spec_l7Cmd s).2 = true) : Rd s (spec_l7Cmd s).1 (CmdBytes (spec_l7Cmd s).2) := by
 unfold CmdBytes
 rw [if_pos hok]
 clear hok
 unfold spec_l7Cmd rCmd letB
 have hb1 : isBytes (spec_l7Num s).1.1 = true := by rw [spec_l7Num_b]; exact hb
 have r1 := num_rd hb
 have l1 := spec_l7Num_le hb
 have r2 := num_rd hb1
 have hb2 : isBytes (spec_l7Num (spec_l7Num s).1).1.1 = true := by rw [spec_l7Num_b]; exact hb1
 have r3 := num_rd hb2
 have hb3 : isBytes (spec_l7Num (spec_l7Num (spec_l7Num s).1).1).1.1 = true := by rw [spec_l7Num_b]; exact hb2
 have r4 := num_rd hb3
 have hb4 : isBytes (spec_l7Num (spec_l7Num (spec_l7Num (spec_l7Num s).1).1).1).1.1 = true := by rw [spec_l7Num_b]; exact hb3
 have r5 := num_rd hb4
 have hb5 : isBytes (spec_l7Num (spec_l7Num (spec_l7Num (spec_l7Num (spec_l7Num s).1).1).1).1).1.1 = true := by rw [spec_l7Num_b]; exact hb4
 have r6 := num_rd hb5
 have hb6 : isBytes (spec_l7Num (spec_l7Num (spec_l7Num (spec_l7Num (spec_l7Num (spec_l7Num s).1).1).1).1).1).1.1 = true := by rw [spec_l7Num_b]; exact hb5
 have r7 := txt_rd hb6
 have hb7 : isBytes (spec_l7Text (spec_l7Num (spec_l7Num (spec_l7Num (spec_l7Num (spec_l7Num (spec_l7Num s).1).1).1).1).1).1).1.1 = true := by rw [spec_l7Text_b]; exact hb6
 have r8 := txt_rd hb7
 have := Rd_trans (Rd_trans (Rd_trans (Rd_trans (Rd_trans (Rd_trans (Rd_trans r1 r2) r3) r4) r5) r6) r7) r8
 simp only
 rw [w64 (n := (spec_l7Num s).2 - 1) (by omega) (by omega), show (spec_l7Num s).2 - 1 + 1 = (spec_l7Num s).2 by omega, w64 (n := (spec_l7Num s).2) (by omega) (by omega)]
 simpa only [nums, List.flatMap_cons, List.flatMap_nil, List.append_nil, List.append_eq, Zk] using this
theorem rCmd_b {num : R -> R × Int} {txt : R -> R × List UInt8} (h1 : ∀ s, (num s).1.1 = s.1) (h2 : ∀ s, (txt s).1.1 = s.1) (s : R) : (rCmd num txt s).1.1 = s.1 := by
 unfold rCmd letB
 simp only [h1, h2]
theorem spec_l7Cmd_b (s : R) : (spec_l7Cmd s).1.1 = s.1 := rCmd_b spec_l7Num_b (rTxt_b _ _) s
theorem ents_rd : (n : Nat) -> (s : R) -> (xs : List Entry) -> isBytes s.1 = true ->
 ∃ zs, (rEnts spec_l7Num spec_l7Cmd true n s xs).2 = xs ++ zs /\ (rEnts spec_l7Num spec_l7Cmd true n s xs).1.1 = s.1 /\
  ((∀ e ∈ zs, CmdOk e.2.1 = true) -> Rd s (rEnts spec_l7Num spec_l7Cmd true n s xs).1 (ents zs) /\ ((rEnts spec_l7Num spec_l7Cmd true n s xs).1.2.2.1 = true -> zs.length = n))
 | 0, s, xs, _ => ⟨[], by simp [rEnts], rfl, fun _ => ⟨Rd_refl s, fun _ => rfl⟩⟩
 | n + 1, s, xs, hb => by
  unfold rEnts
  by_cases hf : s.2.2.1 = true
  . rw [if_pos hf]
    have hb1 : isBytes (spec_l7Num s).1.1 = true := by rw [spec_l7Num_b]; exact hb
    have hb2 : isBytes (spec_l7Cmd (spec_l7Num s).1).1.1 = true := by rw [spec_l7Cmd_b]; exact hb1
    obtain ⟨zs, e1, e2, e3⟩ := ents_rd n (spec_l7Cmd (spec_l7Num s).1).1 (xs ++ [((spec_l7Num s).2, ((spec_l7Cmd (spec_l7Num s).1).2, ()))]) hb2
    refine ⟨((spec_l7Num s).2, ((spec_l7Cmd (spec_l7Num s).1).2, ())) :: zs, by rw [e1]; simp, by rw [e2, spec_l7Cmd_b, spec_l7Num_b], fun hok => ?_⟩
    obtain ⟨r, l⟩ := e3 fun e he => hok e (Zo _ he)
    have hc := hok _ (List.mem_cons_self ..)
    refine ⟨?_, fun h => by rw [Zg, l h]⟩
    have := Rd_trans (Rd_trans (num_rd hb) (cmd_rd hb1 hc)) r
    simpa only [ents, entB, List.flatMap_cons, Zk] using this
  . rw [if_neg hf]
    exact ⟨[], by simp, rfl, fun _ => ⟨Rd_refl s, fun h => absurd h hf⟩⟩
theorem all_eOk {xs : List Entry} {t : Int} (h : spec_l9List xs t = true) : ∀ e ∈ xs, CmdOk e.2.1 = true := by
 intro e he
 simp only [spec_l9List, Zb] at h
 have := Zu.1 h.1 e he
 simp only [eOk, Zb] at this
 exact this.2
theorem NoteOk_cmds {r : Note} (h : NoteOk r = true) : ∀ e ∈ r.2.2.2.2.1, CmdOk e.2.1 = true := by
 simp only [NoteOk, Zb] at h
 exact all_eOk h.2.2.1
theorem note_rd {s : R} (hb : isBytes s.1 = true) (h : NoteOk (spec_l9Read s).2 = true) : Rd s (spec_l9Read s).1 (spec_l9Body (spec_l9Read s).2) := by
 have hc := NoteOk_cmds h
 clear h
 unfold spec_l9Body headB
 unfold spec_l9Read rNote letB at *
 simp only at *
 have hb1 : isBytes (spec_l7Num s).1.1 = true := by rw [spec_l7Num_b]; exact hb
 have r1 := num_rd hb
 have r2 := num_rd hb1
 have hb2 : isBytes (spec_l7Num (spec_l7Num s).1).1.1 = true := by rw [spec_l7Num_b]; exact hb1
 have r3 := num_rd hb2
 have l3 := spec_l7Num_le hb2
 have hb3 : isBytes (spec_l7Num (spec_l7Num (spec_l7Num s).1).1).1.1 = true := by rw [spec_l7Num_b]; exact hb2
 have r4 := num_rd hb3
 have hb4 : isBytes (spec_l7Num (spec_l7Num (spec_l7Num (spec_l7Num s).1).1).1).1.1 = true := by rw [spec_l7Num_b]; exact hb3
 have r5 := num_rd hb4
 have l5 := spec_l7Num_le hb4
 have hb5 : isBytes (spec_l7Num (spec_l7Num (spec_l7Num (spec_l7Num (spec_l7Num s).1).1).1).1).1.1 = true := by rw [spec_l7Num_b]; exact hb4
 rw [w64 (n := _ - 1) (by omega) (by omega), Int.sub_add_cancel, w64 (n := (spec_l7Num (spec_l7Num (spec_l7Num s).1).1).2) (by omega) (by omega)]
 generalize hv5 : spec_l7Num (spec_l7Num (spec_l7Num (spec_l7Num (spec_l7Num s).1).1).1).1 = v5 at *
 obtain ⟨zs, e1, e2, e3⟩ := ents_rd v5.2.toNat v5.1 [] hb5
 rw [List.nil_append] at e1
 rw [e1] at hc ⊢
 obtain ⟨r6, l6⟩ := e3 hc
 have hb6 : isBytes (rEnts spec_l7Num spec_l7Cmd true v5.2.toNat v5.1 []).1.1 = true := by rw [e2]; exact hb5
 have r7 := txt_rd hb6
 generalize rEnts spec_l7Num spec_l7Cmd true v5.2.toNat v5.1 [] = v6 at *
 have hall := Rd_trans (Rd_trans (Rd_trans (Rd_trans (Rd_trans (Rd_trans r1 r2) r3) r4) r5) r6) r7
 refine ⟨hall.1, fun hf => ?_⟩
 have hz : (zs.length : Int) = v5.2 := by
  have := l6 (r7.2 hf).1
  omega
 have := hall.2 hf
 rw [hz]
 exact this
def flip (s : R) : R := (s.1, (s.2.1, (!s.2.2.1, ())))
theorem num_flip {s : R} (hl : s.1.length <= 9223372036854775802) : reader_num (flip s) = (flip (spec_l7Num s).1, (spec_l7Num s).2) := by
 obtain ⟨b, i, f, _⟩ := s
 unfold reader_num spec_l7Num rNum flip
 simp only
 rw [impl_GetNum_eq hl]
 cases f <;> cases (GetNum b i).2.2 <;> simp
theorem txt_flip {s : R} (hl : s.1.length <= 9223372036854775802) : reader_text (flip s) = (flip (spec_l7Text s).1, (spec_l7Text s).2) := by
 obtain ⟨b, i, f, _⟩ := s
 unfold reader_text spec_l7Text rTxt flip
 simp only
 rw [impl_GetNum_eq hl]
 cases f <;> cases (txtV b (GetNum b i)).2.2 <;> simp
theorem rCmd_flip {s : R} (hl : s.1.length <= 9223372036854775802) : rCmd reader_num reader_text (flip s) = (flip (spec_l7Cmd s).1, (spec_l7Cmd s).2) := by
 have hn : ∀ t : R, t.1 = s.1 -> reader_num (flip t) = (flip (spec_l7Num t).1, (spec_l7Num t).2) := fun t ht => num_flip (by rw [ht]; exact hl)
 have ht : ∀ t : R, t.1 = s.1 -> reader_text (flip t) = (flip (spec_l7Text t).1, (spec_l7Text t).2) := fun t ht => txt_flip (by rw [ht]; exact hl)
 unfold rCmd spec_l7Cmd rCmd letB
 rw [hn s rfl]; simp only
 rw [hn _ (by simp only [spec_l7Num_b])]; simp only
 rw [hn _ (by simp only [spec_l7Num_b])]; simp only
 rw [hn _ (by simp only [spec_l7Num_b])]; simp only
 rw [hn _ (by simp only [spec_l7Num_b])]; simp only
 rw [hn _ (by simp only [spec_l7Num_b])]; simp only
 rw [ht _ (by simp only [spec_l7Num_b])]; simp only
 rw [ht _ (by simp only [spec_l7Num_b, spec_l7Text_b])]
theorem rTxt_stick (g : GN) (good : Bool) {s : R} (h : s.2.2.1 = !good) : (rTxt g good s).1 = s := by
 obtain ⟨b, i, f, _⟩ := s
 unfold rTxt
 rw [if_neg (by rintro ⟨h1, _⟩; rw [h1] at h; cases good <;> cases h)]
 simp only at h ⊢
 rw [h]
theorem ents_flip : (n : Nat) -> (s : R) -> (xs : List Entry) -> s.1.length <= 9223372036854775802 ->
 rEnts reader_num reader_cmd false n (flip s) xs = (flip (rEnts spec_l7Num spec_l7Cmd true n s xs).1, (rEnts spec_l7Num spec_l7Cmd true n s xs).2) \/
 ((rEnts reader_num reader_cmd false n (flip s) xs).1.2.2.1 = true /\ ∃ e ∈ (rEnts spec_l7Num spec_l7Cmd true n s xs).2, CmdOk e.2.1 = false)
 | 0, s, xs, _ => .inl rfl
 | n + 1, s, xs, hl => by
  unfold rEnts
  by_cases hf : s.2.2.1 = true
  case neg =>
   rw [if_neg hf, if_neg (by simpa [flip] using hf)]
   exact .inl rfl
  rw [if_pos hf, if_pos (by simpa [flip] using hf), num_flip hl]
  simp only
  have hl1 : (spec_l7Num s).1.1.length <= 9223372036854775802 := by rw [spec_l7Num_b]; exact hl
  have hl2 : (spec_l7Cmd (spec_l7Num s).1).1.1.length <= 9223372036854775802 := by rw [spec_l7Cmd_b]; exact hl1
  have hc := rCmd_flip hl1
  by_cases hok : (spec_l7Cmd (spec_l7Num s).1).1.2.2.1 = true /\ CmdOk (spec_l7Cmd (spec_l7Num s).1).2 = false
  . -- the program stops here
    refine .inr ⟨?_, ?_⟩
    . have hr : reader_cmd (flip (spec_l7Num s).1) = (((spec_l7Cmd (spec_l7Num s).1).1.1, ((spec_l7Cmd (spec_l7Num s).1).1.2.1, (true, ()))), (spec_l7Cmd (spec_l7Num s).1).2) := by
       unfold reader_cmd letB
       rw [hc]
       simp only [flip, hok.1, hok.2, Bool.not_true, Bool.not_false, Zj, if_false]
      rw [hr]
      cases n with
      | zero => rfl
      | succ m => unfold rEnts; rfl
    . cases hn : n with
      | zero => exact ⟨_, by simp only [rEnts]; exact List.mem_append_right _ (Zq.2 rfl), hok.2⟩
      | succ m =>
       have : ∀ (n : Nat) (s : R) (xs : List Entry), ∀ e ∈ xs, e ∈ (rEnts spec_l7Num spec_l7Cmd true n s xs).2 := by
        intro n
        induction n with
        | zero => exact fun _ _ _ h => h
        | succ n ih =>
         intro s xs e h
         unfold rEnts
         split
         . exact ih _ _ _ (List.mem_append_left _ h)
         . exact h
       exact ⟨_, this _ _ _ _ (List.mem_append_right _ (Zq.2 rfl)), hok.2⟩
  . have hr : reader_cmd (flip (spec_l7Num s).1) = (flip (spec_l7Cmd (spec_l7Num s).1).1, (spec_l7Cmd (spec_l7Num s).1).2) := by
     unfold reader_cmd letB
     rw [hc]
     simp only
     generalize spec_l7Cmd (spec_l7Num s).1 = p at *
     obtain ⟨⟨b, i, f, _⟩, c⟩ := p
     simp only [flip] at *
     cases f
     . simp
     . simp only [true_and, Bool.not_eq_false] at hok
       simp [hok]
    rw [hr]
    exact ents_flip n _ _ hl2
def inOk (b : List Int) : Bool :=
 (spec_l9Read (b, (0, (true, ())))).1.2.2.1 && (eqI (spec_l9Read (b, (0, (true, ())))).1.2.1 (b.length : Int) && NoteOk (spec_l9Read (b, (0, (true, ())))).2)
theorem in_flip {b : List Int} (hl : b.length <= 9223372036854775802) :
 (impl_noteIn b).2 = inOk b /\ (inOk b = true -> (impl_noteIn b).1 = (spec_l9Read (b, (0, (true, ())))).2) := by
 have hn : ∀ t : R, t.1 = b -> reader_num (flip t) = (flip (spec_l7Num t).1, (spec_l7Num t).2) := fun t ht => num_flip (by rw [ht]; exact hl)
 have hf0 : ((b, zd29) : R) = flip (b, ((0 : Int), (true, ()))) := rfl
 unfold impl_noteIn inOk
 rw [hf0]
 unfold spec_l9Read
 generalize hs : ((b, ((0 : Int), (true, ()))) : R) = s
 have hsb : s.1 = b := by rw [<- hs]
 unfold rNote letB
 simp only [hn, spec_l7Num_b, hsb]
 have hl5 : (spec_l7Num (spec_l7Num (spec_l7Num (spec_l7Num (spec_l7Num s).1).1).1).1).1.1.length <= 9223372036854775802 := by simp only [spec_l7Num_b, hsb]; exact hl
 have hb5 : (spec_l7Num (spec_l7Num (spec_l7Num (spec_l7Num (spec_l7Num s).1).1).1).1).1.1 = b := by simp only [spec_l7Num_b, hsb]
 generalize spec_l7Num (spec_l7Num (spec_l7Num (spec_l7Num (spec_l7Num s).1).1).1).1 = v5 at *
 rcases ents_flip v5.2.toNat v5.1 [] hl5 with h | ⟨h, e, he, hc⟩
 . simp only [h]
   have hb6 : ∀ (n : Nat) (t : R) (xs : List Entry), (rEnts spec_l7Num spec_l7Cmd true n t xs).1.1 = t.1 := by
    intro n
    induction n with
    | zero => exact fun _ _ => rfl
    | succ n ih =>
     intro t xs
     unfold rEnts
     split
     . rw [ih, spec_l7Cmd_b, spec_l7Num_b]
     . rfl
   have h6 := hb6 v5.2.toNat v5.1 []
   generalize rEnts spec_l7Num spec_l7Cmd true v5.2.toNat v5.1 [] = v6 at *
   have h7 := txt_flip (s := v6.1) (by rw [h6]; exact hl5)
   simp only [h7]
   simp only [flip, Bool.not_not]
   exact ⟨trivial, fun _ => trivial⟩
 . have hbad : ∀ r : Note, r.2.2.2.2.1 = (rEnts spec_l7Num spec_l7Cmd true v5.2.toNat v5.1 []).2 -> NoteOk r = false := by
    intro r hr
    cases hk : NoteOk r
    . rfl
    . have := NoteOk_cmds hk e (by rw [hr]; exact he)
      rw [hc] at this; cases this
   have ht : (reader_text (rEnts reader_num reader_cmd false v5.2.toNat (flip v5.1) []).1).1 = (rEnts reader_num reader_cmd false v5.2.toNat (flip v5.1) []).1 := rTxt_stick _ _ h
   simp only [ht, h, Bool.not_true, Bool.false_and]
   rw [hbad _ rfl]
   simp
def zNote : Note := (0, (0, (0, (0, ([], ([], ()))))))
def ofV (v : Int × (Int × Bool)) (b : List Int) (k : List Int -> Int -> Note × (Int × Bool)) : Note × (Int × Bool) :=
 if v.2.2 = true then
  if (b.length : Int) - v.2.1 - 4 < v.1 then (zNote, (0, false))
  else k (dropTake v.2.1.toNat (v.2.1 + v.1).toNat b) (v.2.1 + v.1 + 4)
 else (zNote, (0, false))
def spec_NoteOf (b : List Int) (i : Int) : Note × (Int × Bool) :=
 ofV (GetNum b i) b fun body e => if strOf (sum4 (SumOf body)) = strOf (dropTake (e - 4).toNat e.toNat b) then
  (if inOk body = true then ((spec_l9Read (body, (0, (true, ())))).2, (e, true)) else (zNote, (0, false))) else (zNote, (0, false))
def impl_NoteOf (b : List Int) (i : Int) : Note × (Int × Bool) :=
 ofV (impl_GetNum b i) b fun body e => if (impl_noteIn body).2 = true then
  (if strOf (NoteBytes (impl_noteIn body).1) = strOf (dropTake i.toNat e.toNat b) then ((impl_noteIn body).1, (e, true)) else (zNote, (0, false))) else (zNote, (0, false))
theorem strOf_app (a b : List Int) : strOf (a ++ b) = strOf a ++ strOf b := by simp [strOf]
theorem NoteOf_same {b : List Int} (i : Int) (hb : isBytes b = true) (hl : b.length <= 9223372036854775802) : impl_NoteOf b i = spec_NoteOf b i := by
 unfold impl_NoteOf spec_NoteOf ofV
 rw [impl_GetNum_eq hl]
 by_cases h : (GetNum b i).2.2 = true
 case neg => rw [if_neg h, if_neg h]
 rw [if_pos h, if_pos h]
 obtain ⟨g0, g1, g2, g3, g4, g5⟩ := GetNum_put hb h
 generalize GetNum b i = v at *
 split
 . rfl
 rename_i hle
 have hbl : (dropTake v.2.1.toNat (v.2.1 + v.1).toNat b).length = (v.2.1 + v.1).toNat - v.2.1.toNat := Go.Aw.dropTake_len (by omega) (by omega)
 have hbb : isBytes (dropTake v.2.1.toNat (v.2.1 + v.1).toNat b) = true := isBytes_dropTake hb _ _
 have hhead : dropTake v.2.1.toNat (v.2.1 + v.1).toNat b ++ dropTake (v.2.1 + v.1).toNat (v.2.1 + v.1 + 4).toNat b = dropTake v.2.1.toNat (v.2.1 + v.1 + 4).toNat b := dropTake_app (by omega) (by omega)
 have hall : PutNum v.1 ++ dropTake v.2.1.toNat (v.2.1 + v.1 + 4).toNat b = dropTake i.toNat (v.2.1 + v.1 + 4).toNat b := by rw [<- g5, dropTake_app (by omega) (by omega)]
 generalize hbd : dropTake v.2.1.toNat (v.2.1 + v.1).toNat b = body at *
 obtain ⟨h1, h2⟩ := in_flip (b := body) (by omega)
 show (if (impl_noteIn body).2 = true then (if strOf (NoteBytes (impl_noteIn body).1) = strOf (dropTake i.toNat (v.2.1 + v.1 + 4).toNat b) then ((impl_noteIn body).1, (v.2.1 + v.1 + 4, true)) else (zNote, (0, false))) else (zNote, (0, false))) = (if strOf (sum4 (SumOf body)) = strOf (dropTake (v.2.1 + v.1 + 4 - 4).toNat (v.2.1 + v.1 + 4).toNat b) then
  (if inOk body = true then ((spec_l9Read (body, (0, (true, ())))).2, (v.2.1 + v.1 + 4, true)) else (zNote, (0, false))) else (zNote, (0, false)))
 rw [h1]
 by_cases hok : inOk body = true
 case neg =>
  rw [if_neg hok, if_neg hok]; split <;> rfl
 rw [if_pos hok, if_pos hok, h2 hok, show v.2.1 + v.1 + 4 - 4 = v.2.1 + v.1 by omega]
 unfold inOk eqI at hok
 simp only [Zb, Za] at hok
 obtain ⟨k1, k2, k3⟩ := hok
 have hr := (note_rd (s := (body, ((0 : Int), (true, ())))) hbb k3).2 k1
 have hbody := (hr.2 (Int.le_refl _) (by simp only; omega)).2.2
 rw [k2] at hbody
 have hbody2 : body = spec_l9Body (spec_l9Read (body, (0, (true, ())))).2 := by
  rw [<- hbody]; simp [dropTake]
 unfold NoteBytes
 rw [if_pos k3, <- hbody2, <- hall, <- hhead, show ((body.length : Nat) : Int) = v.1 by omega]
 simp only [strOf_app, Zk]
 by_cases hs : strOf (sum4 (SumOf body)) = strOf (dropTake (v.2.1 + v.1).toNat (v.2.1 + v.1 + 4).toNat b)
 . rw [if_pos hs, if_pos (by rw [hs])]
 . rw [if_neg hs, if_neg]
   intro hq
   exact hs (List.append_cancel_left (List.append_cancel_left hq))
namespace spec_NoteOf
def pre (_ : List Int) (_ : Int) : Bool := true
abbrev wf (x0 : (List Int)) (x1 : Int) : Prop := wfA [(.val zk20 .f), (.val (.int .i64) .f)] (x0, (x1, ()))
noncomputable def raw (x0 : (List Int)) (x1 : Int) : Option (Unit × (Note × zt36)) :=
 letB (GetNum x0 x1) fun v1 =>
 if (!v1.2.2) = true then
 some zd14
 else
 if (decide ((wrap .i64 ((wrap .i64 (((length x0 : Nat) : Int) - v1.2.1)) - (4 : Int))) < v1.1)) = true then
 some zd14
 else
 if (decide ((0 : Int) <= v1.2.1)) = true then
 if (decide (v1.2.1 <= (wrap .i64 (v1.2.1 + v1.1)))) = true then
 if (decide ((wrap .i64 (v1.2.1 + v1.1)) <= ((length x0 : Nat) : Int))) = true then
 if (decide ((0 : Int) <= (wrap .i64 (v1.2.1 + v1.1)))) = true then
 if (decide ((wrap .i64 (v1.2.1 + v1.1)) <= (wrap .i64 ((wrap .i64 (v1.2.1 + v1.1)) + (4 : Int))))) = true then
 if (decide ((wrap .i64 ((wrap .i64 (v1.2.1 + v1.1)) + (4 : Int))) <= ((length x0 : Nat) : Int))) = true then
 letB (spec_l9Sum (dropTake (Int.toNat v1.2.1) (Int.toNat (wrap .i64 (v1.2.1 + v1.1))) x0)) fun v2 =>
 if (!((strOf v2) == (strOf (dropTake (Int.toNat (wrap .i64 (v1.2.1 + v1.1))) (Int.toNat (wrap .i64 ((wrap .i64 (v1.2.1 + v1.1)) + (4 : Int)))) x0)))) = true then
 some zd14
 else
 if (spec_l9Read.pre ((dropTake (Int.toNat v1.2.1) (Int.toNat (wrap .i64 (v1.2.1 + v1.1))) x0), ((0 : Int), (true, ())))) = true then
 letB (spec_l9Read ((dropTake (Int.toNat v1.2.1) (Int.toNat (wrap .i64 (v1.2.1 + v1.1))) x0), ((0 : Int), (true, ())))) fun v3 =>
 if (!v3.1.2.2.1) = true then
 some zd14
 else
 if (!(decide (v3.1.2.1 = ((length (dropTake (Int.toNat v1.2.1) (Int.toNat (wrap .i64 (v1.2.1 + v1.1))) x0) : Nat) : Int)))) = true then
 some zd14
 else
 letB (NoteOk v3.2) fun v4 =>
 if (!v4) = true then
 some zd14
 else
 some ((), (v3.2, ((wrap .i64 ((wrap .i64 (v1.2.1 + v1.1)) + (4 : Int))), (true, ()))))
 else
 none
 else
 none
 else
 none
 else
 none
 else
 none
 else
 none
 else
 none
theorem eq (x0 : List Int) (x1 : Int) (hw : wf x0 x1) (_ : pre x0 x1 = true) : raw x0 x1 = some ((), ((spec_NoteOf x0 x1).1, ((spec_NoteOf x0 x1).2.1, ((spec_NoteOf x0 x1).2.2, ())))) := by
 have h1 : x0.length <= maxLen := hw.1.1
 have hM := maxLen_eq
 have hb : isBytes x0 = true := isBytes_of hw.1.2
 unfold raw spec_NoteOf ofV
 simp only [letB]
 by_cases h : (GetNum x0 x1).2.2 = true
 case neg => rw [if_pos (by simp [h]), if_neg h]; rfl
 obtain ⟨g0, g1, g2, g3, g4, g5⟩ := GetNum_put hb h
 generalize GetNum x0 x1 = v at *
 rw [if_neg (by simp [h]), if_pos h, w64 (n := (x0.length : Int) - _) (by omega) (by omega), w64 (n := (x0.length : Int) - v.2.1 - 4) (by omega) (by omega)]
 by_cases hl : (x0.length : Int) - v.2.1 - 4 < v.1
 . rw [if_pos (by simp only [Za]; exact hl), if_pos hl]; rfl
 rw [if_neg (by simp only [Za]; exact hl), if_neg hl, w64 (n := v.2.1 + v.1) (by omega) (by omega), w64 (n := v.2.1 + v.1 + 4) (by omega) (by omega)]
 rw [if_pos (by simp only [Za]; omega), if_pos (by simp only [Za]; omega), if_pos (by simp only [Za]; omega), if_pos (by simp only [Za]; omega), if_pos (by simp only [Za]; omega), if_pos (by simp only [Za]; omega)]
 rw [if_pos (show spec_l9Read.pre _ = true from rfl), show v.2.1 + v.1 + 4 - 4 = v.2.1 + v.1 by omega]
 generalize dropTake v.2.1.toNat (v.2.1 + v.1).toNat x0 = body
 have hs : spec_l9Sum body = sum4 (SumOf body) := rfl
 rw [hs]
 by_cases hq : strOf (sum4 (SumOf body)) = strOf (dropTake (v.2.1 + v.1).toNat (v.2.1 + v.1 + 4).toNat x0)
 case neg => rw [if_pos (by simpa using hq), if_neg hq]; rfl
 rw [if_neg (by simpa using hq), if_pos hq]
 unfold inOk eqI
 generalize spec_l9Read (body, ((0 : Int), (true, ()))) = p
 obtain ⟨⟨b, i, f, _⟩, r⟩ := p
 simp only
 cases f
 . simp [zNote]
 . by_cases hi : i = (body.length : Int)
   . cases NoteOk r <;> simp [hi, zNote]
   . simp [hi, zNote]
end spec_NoteOf
namespace impl_NoteOf
def pre (_ : List Int) (i : Int) : Bool := decide (i <= i)
abbrev wf (x0 : (List Int)) (x1 : Int) : Prop := wfA [(.val zk20 .f), (.val (.int .i64) .f)] (x0, (x1, ()))
noncomputable def raw (x0 : (List Int)) (x1 : Int) : Option (Unit × (Note × zt36)) :=
 letB (impl_GetNum x0 x1) fun v1 =>
 if (!v1.2.2) = true then
 some zd14
 else
 if (decide ((wrap .i64 ((wrap .i64 (((length x0 : Nat) : Int) - v1.2.1)) - (4 : Int))) < v1.1)) = true then
 some zd14
 else
 if (decide ((0 : Int) <= v1.2.1)) = true then
 if (decide (v1.2.1 <= (wrap .i64 (v1.2.1 + v1.1)))) = true then
 if (decide ((wrap .i64 (v1.2.1 + v1.1)) <= ((length x0 : Nat) : Int))) = true then
 if (impl_noteIn.pre (dropTake (Int.toNat v1.2.1) (Int.toNat (wrap .i64 (v1.2.1 + v1.1))) x0)) = true then
 letB (impl_noteIn (dropTake (Int.toNat v1.2.1) (Int.toNat (wrap .i64 (v1.2.1 + v1.1))) x0)) fun v2 =>
 if (!v2.2) = true then
 some zd14
 else
 if (decide ((0 : Int) <= x1)) = true then
 if (decide (x1 <= (wrap .i64 ((wrap .i64 (v1.2.1 + v1.1)) + (4 : Int))))) = true then
 if (decide ((wrap .i64 ((wrap .i64 (v1.2.1 + v1.1)) + (4 : Int))) <= ((length x0 : Nat) : Int))) = true then
 letB (NoteBytes v2.1) fun v3 =>
 if (!((strOf v3) == (strOf (dropTake (Int.toNat x1) (Int.toNat (wrap .i64 ((wrap .i64 (v1.2.1 + v1.1)) + (4 : Int)))) x0)))) = true then
 some zd14
 else
 some ((), (v2.1, ((wrap .i64 ((wrap .i64 (v1.2.1 + v1.1)) + (4 : Int))), (true, ()))))
 else
 none
 else
 none
 else
 none
 else
 none
 else
 none
 else
 none
 else
 none
theorem eq (x0 : List Int) (x1 : Int) (hw : wf x0 x1) (_ : pre x0 x1 = true) : raw x0 x1 = some ((), ((impl_NoteOf x0 x1).1, ((impl_NoteOf x0 x1).2.1, ((impl_NoteOf x0 x1).2.2, ())))) := by
 have h1 : x0.length <= maxLen := hw.1.1
 have hM := maxLen_eq
 have hb : isBytes x0 = true := isBytes_of hw.1.2
 unfold raw impl_NoteOf ofV
 simp only [letB]
 by_cases h : (impl_GetNum x0 x1).2.2 = true
 case neg => rw [if_pos (by simp [h]), if_neg h]; rfl
 have hg := impl_GetNum_pos h
 rw [hg] at h ⊢
 obtain ⟨g0, g1, g2, g3, g4, g5⟩ := GetNum_put hb h
 generalize GetNum x0 x1 = v at *
 rw [if_neg (by simp [h]), if_pos h, w64 (n := (x0.length : Int) - _) (by omega) (by omega), w64 (n := (x0.length : Int) - v.2.1 - 4) (by omega) (by omega)]
 by_cases hl : (x0.length : Int) - v.2.1 - 4 < v.1
 . rw [if_pos (by simp only [Za]; exact hl), if_pos hl]; rfl
 rw [if_neg (by simp only [Za]; exact hl), if_neg hl, w64 (n := v.2.1 + v.1) (by omega) (by omega), w64 (n := v.2.1 + v.1 + 4) (by omega) (by omega)]
 rw [if_pos (by simp only [Za]; omega), if_pos (by simp only [Za]; omega), if_pos (by simp only [Za]; omega), if_pos (show impl_noteIn.pre _ = true from rfl)]
 generalize impl_noteIn (dropTake v.2.1.toNat (v.2.1 + v.1).toNat x0) = p
 obtain ⟨r, f⟩ := p
 cases f
 . simp [zNote]
 rw [if_neg (by simp), if_pos (by simp only [Za]; omega), if_pos (by simp only [Za]; omega), if_pos (by simp only [Za]; omega)]
 by_cases hq : strOf (NoteBytes r) = strOf (dropTake x1.toNat (v.2.1 + v.1 + 4).toNat x0)
 . rw [if_neg (by simpa using hq)]; simp [hq]
 . rw [if_pos (by simpa using hq)]; simp [hq, zNote]
end impl_NoteOf
def SetupOk (x : Setup) : Bool := impl_within x.1 1 4 && (impl_within x.2.1 1 5 && (impl_within x.2.2.1 1 8 && impl_within x.2.2.2.1 0 60))
abbrev spec_SetupOk := SetupOk
namespace spec_SetupOk
abbrev wf (x0 : Setup) : Prop := wfA [(.val zk32 .f)] (x0, ())
noncomputable def raw (x0 : Setup) : Option zt30 :=
 if (impl_within x0.1 (1 : Int) (4 : Int)) = true then
 if (impl_within x0.2.1 (1 : Int) (5 : Int)) = true then
 if (impl_within x0.2.2.1 (1 : Int) (8 : Int)) = true then
 some ((), ((impl_within x0.2.2.2.1 (0 : Int) (60 : Int)), ()))
 else
 some ((), (false, ()))
 else
 some ((), (false, ()))
 else
 some ((), (false, ()))
theorem eq (x0 : Setup) (_ : wf x0) : raw x0 = some ((), (spec_SetupOk x0, ())) := by
 unfold raw spec_SetupOk SetupOk
 cases impl_within x0.1 1 4 <;> cases impl_within x0.2.1 1 5 <;> cases impl_within x0.2.2.1 1 8 <;> simp
end spec_SetupOk
def GroupNew (n : Int) : Group := if impl_within n 1 4 = true then (0, ([], ([], (List.replicate n.toNat 0, ())))) else (0, ([], ([], ([], ()))))
abbrev spec_GroupNew := GroupNew
namespace spec_GroupNew
def pre (_ : Int) : Bool := true
abbrev wf (x0 : Int) : Prop := wfA [(.val (.int .i64) .f)] (x0, ())
noncomputable def raw (x0 : Int) : Option (Unit × (Group × Unit)) :=
 letB (impl_within x0 (1 : Int) (4 : Int)) fun v1 =>
 if (!v1) = true then
 some ((), (zd8, ()))
 else
 if (decide ((0 : Int) <= x0)) = true then
 if (decide (x0 <= x0)) = true then
 if (decide (x0 <= (4294967296 : Int))) = true then
 some ((), (((0 : Int), (([] : List Int), (([] : List Int), ((List.replicate (Int.toNat x0) (0 : Int)), ())))), ()))
 else
 none
 else
 none
 else
 none
theorem eq (x0 : Int) (_ : wf x0) (_ : pre x0 = true) : raw x0 = some ((), (spec_GroupNew x0, ())) := by
 unfold raw spec_GroupNew GroupNew
 simp only [letB]
 by_cases h : impl_within x0 1 4 = true
 . have := within_hi h
   rw [if_neg (by simp [h]), if_pos (by simp only [Za]; omega), if_pos (by simp), if_pos (by simp only [Za]; omega), if_pos h]
 . rw [if_pos (by simp [h]), if_neg h]
end spec_GroupNew
def zKeep : Keep := ([], ([], ([], (0, ([], ([], ()))))))
def newKeep (n : Int) : Keep := (List.replicate n.toNat (0, (0, ([], ()))), ([], (List.replicate 2 (GroupNew n), (0, (List.replicate 4 0, (List.replicate 4 (0, (0, ([], ([], ())))), ()))))))
def KeepNew (x : Setup) : Keep := if SetupOk x = true then newKeep x.1 else zKeep
abbrev spec_KeepNew := KeepNew
abbrev KnT := Int × zt6
abbrev KnS := Int × (Setup × KnT)
def knPre : KnS -> Bool := fun s => decide (0 <= s.1) && decide (s.2.2.2.2.2.2.2.2.2.2.2.2.2.1.length <= s.1.toNat)
def knFn : KnS -> KnT := fun (i, x, x3, x4, x5, x6, x7, x8, x9, x10, x11, x12, x13, x14, x15, x16, _) =>
 (x3, (x4, (x5, (x6, (x7, (x8, (x9, (x10, (x11, (x12, (x13, (x14 ++ List.replicate (2 - i).toNat (GroupNew x.1), (x15, (x16, ()))))))))))))))
def knMu : KnS -> Nat := fun s => (2 - s.1).toNat
theorem kn_go {x1 : Int} {x2 : Setup} {x3 : Int} {x4 : Unit} {x5 : List Row} {x6 : List Maker} {x7 : List Group} {x8 : List Int} {x9 : List Answer} {x10 : Int} {x11 : Unit} {x12 : List Row} {x13 : List Maker} {x14 : List Group} {x15 : List Int} {x16 : List Answer}
 (hp : knPre (x1, (x2, (x3, (x4, (x5, (x6, (x7, (x8, (x9, (x10, (x11, (x12, (x13, (x14, (x15, (x16, ())))))))))))))))) = true) (hlt : x1 < 2) :
 Rounds knPre knMu knFn (x1, (x2, (x3, (x4, (x5, (x6, (x7, (x8, (x9, (x10, (x11, (x12, (x13, (x14, (x15, (x16, ()))))))))))))))))
  (some (.inl ((wrap .i64 (x1 + 1)), (x2, (x3, (x4, (x5, (x6, (x7, (x8, (x9, (x10, (x11, (x12, (x13, ((List.append x14 [GroupNew x2.1]), (x15, (x16, ())))))))))))))))))) := by
 simp only [knPre, Zb, Za] at hp
 rw [w64 (n := x1 + 1) (by omega) (by omega)]
 simp only [Rounds]
 refine ⟨?_, by simp only [knMu]; omega, ?_⟩
 . simp only [knPre, Zb, Za, List.append_eq, Zf, Zg, Zh]; omega
 . simp only [knFn, List.append_eq]
   rw [show (2 - x1).toNat = (2 - (x1 + 1)).toNat + 1 by omega, List.replicate_succ, Zk]; rfl
theorem kn_end {x1 : Int} {x2 : Setup} {x3 : Int} {x4 : Unit} {x5 : List Row} {x6 : List Maker} {x7 : List Group} {x8 : List Int} {x9 : List Answer} {x10 : Int} {x11 : Unit} {x12 : List Row} {x13 : List Maker} {x14 : List Group} {x15 : List Int} {x16 : List Answer} (hlt : ¬ x1 < 2) :
 Rounds knPre knMu knFn (x1, (x2, (x3, (x4, (x5, (x6, (x7, (x8, (x9, (x10, (x11, (x12, (x13, (x14, (x15, (x16, ()))))))))))))))))
  (some (.inr (x3, (x4, (x5, (x6, (x7, (x8, (x9, (x10, (x11, (x12, (x13, (x14, (x15, (x16, ())))))))))))))))) := by
 simp only [Rounds, knFn]
 rw [show (2 - x1).toNat = 0 by omega, List.replicate_zero, List.append_nil]
namespace spec_KeepNew
def pre (_ : Setup) : Bool := true
def pre5 := knPre
def fn5 := knFn
def mu5 := knMu
noncomputable def raw5 (x1 : Int) (x2 : Setup) (x3 : Int) (x4 : Unit) (x5 : (List Row)) (x6 : (List Maker)) (x7 : (List Group)) (x8 : (List Int)) (x9 : (List Answer)) (x10 : Int) (x11 : Unit) (x12 : (List Row)) (x13 : (List Maker)) (x14 : (List Group)) (x15 : (List Int)) (x16 : (List Answer)) : Option ((Int × (Setup × (Int × zt6))) ⊕ (Int × zt6)) :=
 if (decide (x1 < (2 : Int))) = true then
 if (spec_GroupNew.pre x2.1) = true then
 letB (GroupNew x2.1) fun v1 =>
 if (decide (length x14 + length (v1 :: ([] : List Group)) <= lim)) = true then
 some (.inl ((wrap .i64 (x1 + (1 : Int))), (x2, (x3, (x4, (x5, (x6, (x7, (x8, (x9, (x10, (x11, (x12, (x13, ((List.append x14 (v1 :: ([] : List Group))), (x15, (x16, ())))))))))))))))))
 else
 none
 else
 none
 else
 some (.inr (x3, (x4, (x5, (x6, (x7, (x8, (x9, (x10, (x11, (x12, (x13, (x14, (x15, (x16, ())))))))))))))))
abbrev wf (x0 : Setup) : Prop := wfA [(.val zk32 .f)] (x0, ())
noncomputable def raw (x0 : Setup) : Option (Unit × (zt1 × Unit)) :=
 letB (SetupOk x0) fun v1 =>
 if (!v1) = true then
 some ((), ((([] : List Row), (([] : List Maker), (([] : List Group), ((0 : Int), (([] : List Int), (([] : List Answer), ())))))), ()))
 else
 if (decide ((0 : Int) <= x0.1)) = true then
 if (decide (x0.1 <= x0.1)) = true then
 if (decide (x0.1 <= (4294967296 : Int))) = true then
 if (decide ((0 : Int) <= (4 : Int))) = true then
 if (decide ((4 : Int) <= (4 : Int))) = true then
 if (decide ((4 : Int) <= (4294967296 : Int))) = true then
 if (decide ((0 : Int) <= (4 : Int))) = true then
 if (decide ((4 : Int) <= (4 : Int))) = true then
 if (decide ((4 : Int) <= (4294967296 : Int))) = true then
 if (spec_KeepNew.pre5 ((0 : Int), (x0, ((0 : Int), ((), (([] : List Row), (([] : List Maker), (([] : List Group), (([] : List Int), (([] : List Answer), ((0 : Int), ((), ((List.replicate (Int.toNat x0.1) zd9), (([] : List Maker), (([] : List Group), ((List.replicate (Int.toNat (4 : Int)) (0 : Int)), ((List.replicate (Int.toNat (4 : Int)) zd7), ()))))))))))))))))) = true then
 letB (spec_KeepNew.fn5 ((0 : Int), (x0, ((0 : Int), ((), (([] : List Row), (([] : List Maker), (([] : List Group), (([] : List Int), (([] : List Answer), ((0 : Int), ((), ((List.replicate (Int.toNat x0.1) zd9), (([] : List Maker), (([] : List Group), ((List.replicate (Int.toNat (4 : Int)) (0 : Int)), ((List.replicate (Int.toNat (4 : Int)) zd7), ()))))))))))))))))) fun v2 =>
 some ((), ((v2.2.2.2.2.2.2.2.2.2.1, (v2.2.2.2.2.2.2.2.2.2.2.1, (v2.2.2.2.2.2.2.2.2.2.2.2.1, (v2.2.2.2.2.2.2.2.1, (v2.2.2.2.2.2.2.2.2.2.2.2.2.1, (v2.2.2.2.2.2.2.2.2.2.2.2.2.2.1, v2.2.2.2.2.2.2.2.2.1)))))), ()))
 else
 none
 else
 none
 else
 none
 else
 none
 else
 none
 else
 none
 else
 none
 else
 none
 else
 none
 else
 none
theorem ok5 (x1 : Int) (x2 : Setup) (x3 : Int) (x4 : Unit) (x5 : List Row) (x6 : List Maker) (x7 : List Group) (x8 : List Int) (x9 : List Answer) (x10 : Int) (x11 : Unit) (x12 : List Row) (x13 : List Maker) (x14 : List Group) (x15 : List Int) (x16 : List Answer)
 (hp : pre5 (x1, (x2, (x3, (x4, (x5, (x6, (x7, (x8, (x9, (x10, (x11, (x12, (x13, (x14, (x15, (x16, ())))))))))))))))) = true) :
 Rounds pre5 mu5 fn5 (x1, (x2, (x3, (x4, (x5, (x6, (x7, (x8, (x9, (x10, (x11, (x12, (x13, (x14, (x15, (x16, ())))))))))))))))) (raw5 x1 x2 x3 x4 x5 x6 x7 x8 x9 x10 x11 x12 x13 x14 x15 x16) := by
 unfold raw5
 simp only [letB]
 by_cases hlt : x1 < 2
 . have hp2 := hp
   simp only [pre5, knPre, Zb, Za] at hp2
   rw [if_pos (by simp [hlt]), if_pos (show spec_GroupNew.pre _ = true from rfl), if_pos (by simp only [Za, lim, Zg, Zh]; omega)]
   exact kn_go hp hlt
 . rw [if_neg (by simp [hlt])]
   exact kn_end hlt
theorem eq (x0 : Setup) (_ : wf x0) (_ : pre x0 = true) : raw x0 = some ((), (spec_KeepNew x0, ())) := by
 unfold raw spec_KeepNew KeepNew
 simp only [letB]
 by_cases h : SetupOk x0 = true
 case neg => rw [if_pos (by simp [h]), if_neg h]; rfl
 have hs := h
 simp only [SetupOk, Zb] at hs
 have := within_hi hs.1
 rw [if_neg (by simp [h]), if_pos (by simp only [Za]; omega), if_pos (by simp), if_pos (by simp only [Za]; omega), if_pos (by decide), if_pos (by decide), if_pos (by decide), if_pos (by decide), if_pos (by decide), if_pos (by decide),
  if_pos (show pre5 _ = true by simp [pre5, knPre]), if_pos h]
 rfl
end spec_KeepNew
section
variable {S O : Type} {pre : S -> Bool} {mu : S -> Nat} {fn : S -> O} {s : S}
theorem R_if {c : Prop} [Decidable c] {A B : Option (S ⊕ O)} (h : c) (r : Rounds pre mu fn s A) : Rounds pre mu fn s (if c then A else B) := by rw [if_pos h]; exact r
theorem R_else {c : Prop} [Decidable c] {A B : Option (S ⊕ O)} (h : ¬ c) (r : Rounds pre mu fn s B) : Rounds pre mu fn s (if c then A else B) := by rw [if_neg h]; exact r
theorem R_let {α : Type} {a : α} {f : α -> Option (S ⊕ O)} (r : Rounds pre mu fn s (f a)) : Rounds pre mu fn s (letB a f) := r
end
section
variable {α β : Type}
theorem E_if {c : Prop} [Decidable c] {A B : Option α} {v : Option α} (h : c) (r : A = v) : (if c then A else B) = v := by rw [if_pos h]; exact r
theorem E_else {c : Prop} [Decidable c] {A B : Option α} {v : Option α} (h : ¬ c) (r : B = v) : (if c then A else B) = v := by rw [if_neg h]; exact r
theorem E_let {a : β} {f : β -> Option α} {v : Option α} (r : f a = v) : letB a f = v := r
def cpPre (q : α -> Bool) (xs : List α) (n i : Int) (out : List α) : Bool := small xs && (xs.all q && (decide (n = (xs.length : Int)) && (decide (0 <= i) && (decide (i <= (xs.length : Int)) && decide ((out.length : Int) <= i)))))
theorem cpPre_iff {q : α -> Bool} {xs : List α} {n i : Int} {out : List α} : cpPre q xs n i out = true ↔ xs.length <= 16777216 /\ xs.all q = true /\ n = (xs.length : Int) /\ 0 <= i /\ i <= (xs.length : Int) /\ (out.length : Int) <= i := by
 simp only [cpPre, Zb, Za, small_iff]
theorem cp_step {q : α -> Bool} {xs : List α} {n i : Int} {out : List α} (d : α) (hp : cpPre q xs n i out = true) (hlt : i < n) :
 q (xs.getD i.toNat d) = true /\ 0 <= i /\ i < (xs.length : Int) /\ out.length + length (xs.getD i.toNat d :: ([] : List α)) <= lim /\ wrap .i64 (i + 1) = i + 1 /\
  cpPre q xs n (i + 1) (out ++ [xs.getD i.toNat d]) = true /\ (out ++ [xs.getD i.toNat d]) ++ xs.drop (i + 1).toNat = out ++ xs.drop i.toNat /\ xs.length - (i + 1).toNat < xs.length - i.toNat := by
 obtain ⟨h1, h2, h3, h4, h5, h6⟩ := cpPre_iff.1 hp
 have hn : i.toNat < xs.length := by omega
 have e1 := Zn hn
 rw [getD_get hn]
 refine ⟨Zu.1 h2 _ (List.getElem_mem _), h4, by omega, by simp only [Zg, Zh, lim]; omega, w64 (by omega) (by omega), ?_, ?_, by omega⟩
 . rw [cpPre_iff]
   exact ⟨h1, h2, h3, by omega, by omega, by simp only [Zf, Zg, Zh]; omega⟩
 . rw [show (i + 1).toNat = i.toNat + 1 by omega, e1, Zk]; rfl
theorem cp_end {q : α -> Bool} {xs : List α} {n i : Int} {out : List α} (hp : cpPre q xs n i out = true) (hlt : ¬ i < n) : out ++ xs.drop i.toNat = out := by
 obtain ⟨h1, h2, h3, h4, h5, h6⟩ := cpPre_iff.1 hp
 rw [Zt (by omega), List.append_nil]
theorem cp_start {q : α -> Bool} {xs : List α} (h : small xs = true) (ha : xs.all q = true) : cpPre q xs ((length xs : Nat) : Int) 0 [] = true := by
 rw [cpPre_iff]; rw [small_iff] at h
 exact ⟨h, ha, rfl, by omega, by omega, by simp⟩
theorem cp_lim {xs : List α} (h : small xs = true) : ([] : List β).length + xs.length <= lim := by
 rw [small_iff] at h; simp only [Zh, lim]; omega
end
def spec_l3Copy (x : Row) : Row := x
namespace spec_l3Copy
def pre (x : Row) : Bool := small x.2.2.1
abbrev wf (x0 : Row) : Prop := wfA [(.val zk23 .f)] (x0, ())
noncomputable def raw (x0 : Row) : Option (Unit × (Row × Unit)) :=
 if (decide (length ([] : List Item) + length x0.2.2.1 <= lim)) = true then
 some ((), ((x0.1, (x0.2.1, ((List.append ([] : List Item) x0.2.2.1), ()))), ()))
 else
 none
theorem eq (x0 : Row) (_ : wf x0) (hp : pre x0 = true) : raw x0 = some ((), (spec_l3Copy x0, ())) := by
 unfold raw
 have hp : small x0.2.2.1 = true := hp
 refine E_if (Zd (cp_lim hp)) ?_
 rfl
end spec_l3Copy
def spec_l4Copy (x : Maker) : Maker := x
namespace spec_l4Copy
def pre (x : Maker) : Bool := small x.2.2.2.2.1
abbrev wf (x0 : Maker) : Prop := wfA [(.val zk25 .f)] (x0, ())
noncomputable def raw (x0 : Maker) : Option (Unit × (Maker × Unit)) :=
 if (decide (length ([] : List Mark) + length x0.2.2.2.2.1 <= lim)) = true then
 some ((), ((x0.1, (x0.2.1, (x0.2.2.1, (x0.2.2.2.1, ((List.append ([] : List Mark) x0.2.2.2.2.1), x0.2.2.2.2.2))))), ()))
 else
 none
theorem eq (x0 : Maker) (_ : wf x0) (hp : pre x0 = true) : raw x0 = some ((), (spec_l4Copy x0, ())) := by
 unfold raw
 have hp : small x0.2.2.2.2.1 = true := hp
 refine E_if (Zd (cp_lim hp)) ?_
 rfl
end spec_l4Copy
def groupS (x : Group) : Bool := small x.2.1 && (small x.2.2.1 && small x.2.2.2.1)
def spec_l5Copy (x : Group) : Group := x
namespace spec_l5Copy
def pre (x : Group) : Bool := groupS x
abbrev wf (x0 : Group) : Prop := wfA [(.val zk19 .f)] (x0, ())
noncomputable def raw (x0 : Group) : Option (Unit × (Group × Unit)) :=
 if (decide (length ([] : List Int) + length x0.2.1 <= lim)) = true then
 if (decide (length ([] : List Int) + length x0.2.2.1 <= lim)) = true then
 if (decide (length ([] : List Int) + length x0.2.2.2.1 <= lim)) = true then
 some ((), ((x0.1, ((List.append ([] : List Int) x0.2.1), ((List.append ([] : List Int) x0.2.2.1), ((List.append ([] : List Int) x0.2.2.2.1), ())))), ()))
 else
 none
 else
 none
 else
 none
theorem eq (x0 : Group) (_ : wf x0) (hp : pre x0 = true) : raw x0 = some ((), (spec_l5Copy x0, ())) := by
 simp only [pre, groupS, Zb] at hp
 unfold raw
 refine E_if (Zd (cp_lim hp.1)) (E_if (Zd (cp_lim hp.2.1)) (E_if (Zd (cp_lim hp.2.2)) ?_))
 rfl
end spec_l5Copy
def spec_l6Copy (x : Keep) : Keep := x
namespace spec_l6Copy
abbrev S3 : Type := (Int × (zt1 × (Int × zt6)))
abbrev O3 : Type := (zt1 × (Int × zt6))
abbrev S7 : Type := (Int × (zt1 × (Int × zt6)))
abbrev O7 : Type := (zt1 × (Int × zt6))
abbrev S11 : Type := (Int × (zt1 × (Int × zt6)))
abbrev O11 : Type := (Int × zt6)
def pre (x : Keep) : Bool := small x.1 && (x.1.all spec_l3Copy.pre && (small x.2.1 && (x.2.1.all spec_l4Copy.pre && (small x.2.2.1 && (x.2.2.1.all spec_l5Copy.pre && (small x.2.2.2.2.1 && small x.2.2.2.2.2.1))))))
def pre3 : S3 -> Bool := fun (x1, x2, _, _, _, _, _, _, _, _, _, x12, _, _, _, _, _) => cpPre spec_l3Copy.pre x2.1 ((length x2.1 : Nat) : Int) x1 x12
def fn3 : S3 -> O3 := fun (x1, x2, x3, x4, x5, x6, x7, x8, x9, x10, x11, x12, x13, x14, x15, x16, _) => (x2, (x3, (x4, (x5, (x6, (x7, (x8, (x9, (x10, (x11, (x12 ++ x2.1.drop x1.toNat, (x13, (x14, (x15, (x16, ())))))))))))))))
def mu3 : S3 -> Nat := fun (x1, x2, _, _, _, _, _, _, _, _, _, _, _, _, _, _, _) => x2.1.length - x1.toNat
def pre7 : S7 -> Bool := fun (x1, x2, _, _, _, _, _, _, _, _, _, _, x13, _, _, _, _) => cpPre spec_l4Copy.pre x2.2.1 ((length x2.2.1 : Nat) : Int) x1 x13
def fn7 : S7 -> O7 := fun (x1, x2, x3, x4, x5, x6, x7, x8, x9, x10, x11, x12, x13, x14, x15, x16, _) => (x2, (x3, (x4, (x5, (x6, (x7, (x8, (x9, (x10, (x11, (x12, (x13 ++ x2.2.1.drop x1.toNat, (x14, (x15, (x16, ())))))))))))))))
def mu7 : S7 -> Nat := fun (x1, x2, _, _, _, _, _, _, _, _, _, _, _, _, _, _, _) => x2.2.1.length - x1.toNat
def pre11 : S11 -> Bool := fun (x1, x2, _, _, _, _, _, _, _, _, _, _, _, x14, _, _, _) => cpPre spec_l5Copy.pre x2.2.2.1 ((length x2.2.2.1 : Nat) : Int) x1 x14
def fn11 : S11 -> O11 := fun (x1, x2, x3, x4, x5, x6, x7, x8, x9, x10, x11, x12, x13, x14, x15, x16, _) => (x3, (x4, (x5, (x6, (x7, (x8, (x9, (x10, (x11, (x12, (x13, (x14 ++ x2.2.2.1.drop x1.toNat, (x15, (x16, ()))))))))))))))
def mu11 : S11 -> Nat := fun (x1, x2, _, _, _, _, _, _, _, _, _, _, _, _, _, _, _) => x2.2.2.1.length - x1.toNat
noncomputable def raw3 (x1 : Int) (x2 : zt1) (x3 : Int) (x4 : Unit) (x5 : (List Row)) (x6 : (List Maker)) (x7 : (List Group)) (x8 : (List Int)) (x9 : (List Answer)) (x10 : Int) (x11 : Unit) (x12 : (List Row)) (x13 : (List Maker)) (x14 : (List Group)) (x15 : (List Int)) (x16 : (List Answer)) : Option ((Int × (zt1 × (Int × zt6))) ⊕ (zt1 × (Int × zt6))) :=
 if (decide (x1 < ((length x2.1 : Nat) : Int))) = true then
 if (decide ((0 : Int) <= x1)) = true then
 if (decide (x1 < ((length x2.1 : Nat) : Int))) = true then
 if (spec_l3Copy.pre (List.getD x2.1 (Int.toNat x1) zd9)) = true then
 letB (spec_l3Copy (List.getD x2.1 (Int.toNat x1) zd9)) fun v1 =>
 if (decide (length x12 + length (v1 :: ([] : List Row)) <= lim)) = true then
 some (.inl ((wrap .i64 (x1 + (1 : Int))), (x2, (x3, (x4, (x5, (x6, (x7, (x8, (x9, (x10, (x11, ((List.append x12 (v1 :: ([] : List Row))), (x13, (x14, (x15, (x16, ())))))))))))))))))
 else
 none
 else
 none
 else
 none
 else
 none
 else
 some (.inr (x2, (x3, (x4, (x5, (x6, (x7, (x8, (x9, (x10, (x11, (x12, (x13, (x14, (x15, (x16, ()))))))))))))))))
noncomputable def raw7 (x1 : Int) (x2 : zt1) (x3 : Int) (x4 : Unit) (x5 : (List Row)) (x6 : (List Maker)) (x7 : (List Group)) (x8 : (List Int)) (x9 : (List Answer)) (x10 : Int) (x11 : Unit) (x12 : (List Row)) (x13 : (List Maker)) (x14 : (List Group)) (x15 : (List Int)) (x16 : (List Answer)) : Option ((Int × (zt1 × (Int × zt6))) ⊕ (zt1 × (Int × zt6))) :=
 if (decide (x1 < ((length x2.2.1 : Nat) : Int))) = true then
 if (decide ((0 : Int) <= x1)) = true then
 if (decide (x1 < ((length x2.2.1 : Nat) : Int))) = true then
 if (spec_l4Copy.pre (List.getD x2.2.1 (Int.toNat x1) zd5)) = true then
 letB (spec_l4Copy (List.getD x2.2.1 (Int.toNat x1) zd5)) fun v1 =>
 if (decide (length x13 + length (v1 :: ([] : List Maker)) <= lim)) = true then
 some (.inl ((wrap .i64 (x1 + (1 : Int))), (x2, (x3, (x4, (x5, (x6, (x7, (x8, (x9, (x10, (x11, (x12, ((List.append x13 (v1 :: ([] : List Maker))), (x14, (x15, (x16, ())))))))))))))))))
 else
 none
 else
 none
 else
 none
 else
 none
 else
 some (.inr (x2, (x3, (x4, (x5, (x6, (x7, (x8, (x9, (x10, (x11, (x12, (x13, (x14, (x15, (x16, ()))))))))))))))))
noncomputable def raw11 (x1 : Int) (x2 : zt1) (x3 : Int) (x4 : Unit) (x5 : (List Row)) (x6 : (List Maker)) (x7 : (List Group)) (x8 : (List Int)) (x9 : (List Answer)) (x10 : Int) (x11 : Unit) (x12 : (List Row)) (x13 : (List Maker)) (x14 : (List Group)) (x15 : (List Int)) (x16 : (List Answer)) : Option ((Int × (zt1 × (Int × zt6))) ⊕ (Int × zt6)) :=
 if (decide (x1 < ((length x2.2.2.1 : Nat) : Int))) = true then
 if (decide ((0 : Int) <= x1)) = true then
 if (decide (x1 < ((length x2.2.2.1 : Nat) : Int))) = true then
 if (spec_l5Copy.pre (List.getD x2.2.2.1 (Int.toNat x1) zd8)) = true then
 letB (spec_l5Copy (List.getD x2.2.2.1 (Int.toNat x1) zd8)) fun v1 =>
 if (decide (length x14 + length (v1 :: ([] : List Group)) <= lim)) = true then
 some (.inl ((wrap .i64 (x1 + (1 : Int))), (x2, (x3, (x4, (x5, (x6, (x7, (x8, (x9, (x10, (x11, (x12, (x13, ((List.append x14 (v1 :: ([] : List Group))), (x15, (x16, ())))))))))))))))))
 else
 none
 else
 none
 else
 none
 else
 none
 else
 some (.inr (x3, (x4, (x5, (x6, (x7, (x8, (x9, (x10, (x11, (x12, (x13, (x14, (x15, (x16, ())))))))))))))))
abbrev wf (x0 : zt1) : Prop := wfA [(.val zk3 .f)] (x0, ())
noncomputable def raw (x0 : zt1) : Option (Unit × (zt1 × Unit)) :=
 if (decide (length ([] : List Int) + length x0.2.2.2.2.1 <= lim)) = true then
 if (decide (length ([] : List Answer) + length x0.2.2.2.2.2.1 <= lim)) = true then
 if (spec_l6Copy.pre3 ((0 : Int), (x0, ((0 : Int), ((), (([] : List Row), (([] : List Maker), (([] : List Group), (([] : List Int), (([] : List Answer), (x0.2.2.2.1, ((), (([] : List Row), (([] : List Maker), (([] : List Group), ((List.append ([] : List Int) x0.2.2.2.2.1), ((List.append ([] : List Answer) x0.2.2.2.2.2.1), ()))))))))))))))))) = true then
 letB (spec_l6Copy.fn3 ((0 : Int), (x0, ((0 : Int), ((), (([] : List Row), (([] : List Maker), (([] : List Group), (([] : List Int), (([] : List Answer), (x0.2.2.2.1, ((), (([] : List Row), (([] : List Maker), (([] : List Group), ((List.append ([] : List Int) x0.2.2.2.2.1), ((List.append ([] : List Answer) x0.2.2.2.2.2.1), ()))))))))))))))))) fun v1 =>
 if (spec_l6Copy.pre7 ((0 : Int), v1)) = true then
 letB (spec_l6Copy.fn7 ((0 : Int), v1)) fun v2 =>
 if (spec_l6Copy.pre11 ((0 : Int), v2)) = true then
 letB (spec_l6Copy.fn11 ((0 : Int), v2)) fun v3 =>
 some ((), ((v3.2.2.2.2.2.2.2.2.2.1, (v3.2.2.2.2.2.2.2.2.2.2.1, (v3.2.2.2.2.2.2.2.2.2.2.2.1, (v3.2.2.2.2.2.2.2.1, (v3.2.2.2.2.2.2.2.2.2.2.2.2.1, (v3.2.2.2.2.2.2.2.2.2.2.2.2.2.1, v3.2.2.2.2.2.2.2.2.1)))))), ()))
 else
 none
 else
 none
 else
 none
 else
 none
 else
 none
theorem ok3 (x1 x2 x3 x4 x5 x6 x7 x8 x9 x10 x11 x12 x13 x14 x15 x16) (hp : pre3 (x1, (x2, (x3, (x4, (x5, (x6, (x7, (x8, (x9, (x10, (x11, (x12, (x13, (x14, (x15, (x16, ())))))))))))))))) = true) : Rounds pre3 mu3 fn3 (x1, (x2, (x3, (x4, (x5, (x6, (x7, (x8, (x9, (x10, (x11, (x12, (x13, (x14, (x15, (x16, ())))))))))))))))) (raw3 x1 x2 x3 x4 x5 x6 x7 x8 x9 x10 x11 x12 x13 x14 x15 x16) := by
 have hp : cpPre spec_l3Copy.pre x2.1 ((length x2.1 : Nat) : Int) x1 x12 = true := hp
 unfold raw3
 by_cases hlt : x1 < ((length x2.1 : Nat) : Int)
 . obtain ⟨hq, h0, h1, h2, h3, h4, h5, h6⟩ := cp_step zd9 hp hlt
   rw [h3]
   refine R_if (Zd hlt) ?_
   refine R_if (Zd h0) ?_
   refine R_if (Zd h1) ?_
   refine R_if hq ?_
   refine R_let ?_
   refine R_if (Zd h2) ?_
   exact ⟨h4, h6, congrArg (fun z : List Row => ((x2, (x3, (x4, (x5, (x6, (x7, (x8, (x9, (x10, (x11, (z, (x13, (x14, (x15, (x16, ()))))))))))))))) : O3)) h5⟩
 . refine R_else (by rw [Za]; exact hlt) ?_
   show _ = _
   exact congrArg (fun z : List Row => ((x2, (x3, (x4, (x5, (x6, (x7, (x8, (x9, (x10, (x11, (z, (x13, (x14, (x15, (x16, ()))))))))))))))) : O3)) (cp_end hp hlt).symm
theorem ok7 (x1 x2 x3 x4 x5 x6 x7 x8 x9 x10 x11 x12 x13 x14 x15 x16) (hp : pre7 (x1, (x2, (x3, (x4, (x5, (x6, (x7, (x8, (x9, (x10, (x11, (x12, (x13, (x14, (x15, (x16, ())))))))))))))))) = true) : Rounds pre7 mu7 fn7 (x1, (x2, (x3, (x4, (x5, (x6, (x7, (x8, (x9, (x10, (x11, (x12, (x13, (x14, (x15, (x16, ())))))))))))))))) (raw7 x1 x2 x3 x4 x5 x6 x7 x8 x9 x10 x11 x12 x13 x14 x15 x16) := by
 have hp : cpPre spec_l4Copy.pre x2.2.1 ((length x2.2.1 : Nat) : Int) x1 x13 = true := hp
 unfold raw7
 by_cases hlt : x1 < ((length x2.2.1 : Nat) : Int)
 . obtain ⟨hq, h0, h1, h2, h3, h4, h5, h6⟩ := cp_step zd5 hp hlt
   rw [h3]
   refine R_if (Zd hlt) ?_
   refine R_if (Zd h0) ?_
   refine R_if (Zd h1) ?_
   refine R_if hq ?_
   refine R_let ?_
   refine R_if (Zd h2) ?_
   exact ⟨h4, h6, congrArg (fun z : List Maker => ((x2, (x3, (x4, (x5, (x6, (x7, (x8, (x9, (x10, (x11, (x12, (z, (x14, (x15, (x16, ()))))))))))))))) : O7)) h5⟩
 . refine R_else (by rw [Za]; exact hlt) ?_
   show _ = _
   exact congrArg (fun z : List Maker => ((x2, (x3, (x4, (x5, (x6, (x7, (x8, (x9, (x10, (x11, (x12, (z, (x14, (x15, (x16, ()))))))))))))))) : O7)) (cp_end hp hlt).symm
theorem ok11 (x1 x2 x3 x4 x5 x6 x7 x8 x9 x10 x11 x12 x13 x14 x15 x16) (hp : pre11 (x1, (x2, (x3, (x4, (x5, (x6, (x7, (x8, (x9, (x10, (x11, (x12, (x13, (x14, (x15, (x16, ())))))))))))))))) = true) : Rounds pre11 mu11 fn11 (x1, (x2, (x3, (x4, (x5, (x6, (x7, (x8, (x9, (x10, (x11, (x12, (x13, (x14, (x15, (x16, ())))))))))))))))) (raw11 x1 x2 x3 x4 x5 x6 x7 x8 x9 x10 x11 x12 x13 x14 x15 x16) := by
 have hp : cpPre spec_l5Copy.pre x2.2.2.1 ((length x2.2.2.1 : Nat) : Int) x1 x14 = true := hp
 unfold raw11
 by_cases hlt : x1 < ((length x2.2.2.1 : Nat) : Int)
 . obtain ⟨hq, h0, h1, h2, h3, h4, h5, h6⟩ := cp_step zd8 hp hlt
   rw [h3]
   refine R_if (Zd hlt) ?_
   refine R_if (Zd h0) ?_
   refine R_if (Zd h1) ?_
   refine R_if hq ?_
   refine R_let ?_
   refine R_if (Zd h2) ?_
   exact ⟨h4, h6, congrArg (fun z : List Group => ((x3, (x4, (x5, (x6, (x7, (x8, (x9, (x10, (x11, (x12, (x13, (z, (x15, (x16, ())))))))))))))) : O11)) h5⟩
 . refine R_else (by rw [Za]; exact hlt) ?_
   show _ = _
   exact congrArg (fun z : List Group => ((x3, (x4, (x5, (x6, (x7, (x8, (x9, (x10, (x11, (x12, (x13, (z, (x15, (x16, ())))))))))))))) : O11)) (cp_end hp hlt).symm
theorem eq (x0 : Keep) (_ : wf x0) (hp : pre x0 = true) : raw x0 = some ((), (spec_l6Copy x0, ())) := by
 simp only [pre, Zb] at hp
 obtain ⟨a1, a2, a3, a4, a5, a6, a7, a8⟩ := hp
 unfold raw
 refine E_if (Zd (cp_lim a7)) (E_if (Zd (cp_lim a8)) ?_)
 refine E_if (show pre3 _ = true from cp_start a1 a2) (E_let ?_)
 refine E_if (show pre7 _ = true from cp_start a3 a4) (E_let ?_)
 exact E_if (show pre11 _ = true from cp_start a5 a6) (E_let rfl)
end spec_l6Copy
def allN (ok : Nat -> Bool) : Nat -> Nat -> Bool
 | _, 0 => true
 | i, k + 1 => ok i && allN ok (i + 1) k
theorem allN_iff {ok : Nat -> Bool} : (k i : Nat) -> (allN ok i k = true ↔ ∀ j, i <= j -> j < i + k -> ok j = true)
 | 0, i => by simp only [allN, true_iff]; intro j h1 h2; omega
 | k + 1, i => by
  simp only [allN, Zb, allN_iff k (i + 1)]
  constructor
  . rintro ⟨h1, h2⟩ j h3 h4
    rcases Nat.lt_or_ge i j with h | h
    . exact h2 j h (by omega)
    . rw [show j = i by omega]; exact h1
  . intro h
    exact ⟨h i (Nat.le_refl _) (by omega), fun j h1 h2 => h j (by omega) (by omega)⟩
theorem allN_0 {ok : Nat -> Bool} {n : Nat} : allN ok 0 n = true ↔ ∀ j, j < n -> ok j = true := by
 rw [allN_iff]
 exact ⟨fun h j hj => h j (Nat.zero_le _) (by omega), fun h j _ hj => h j (by omega)⟩
section
variable {α β : Type}
def alPre (n : Nat) (i : Int) : Bool := decide (n <= 16777216) && (decide (0 <= i) && decide (i <= (n : Int)))
def alFn (ok : Nat -> Bool) (n : Nat) (i : Int) (r : β) : (Bool × Unit) ⊕ β := cond (allN ok i.toNat (n - i.toNat)) (.inr r) (.inl (false, ()))
theorem al_facts {n : Nat} {i : Int} (h : alPre n i = true) : n <= 16777216 /\ 0 <= i /\ i <= (n : Int) := by
 simpa only [alPre, Zb, Za] using h
theorem al_step {n : Nat} {i : Int} (h : alPre n i = true) (hlt : i < (n : Int)) :
 wrap .i64 (i + 1) = i + 1 /\ alPre n (i + 1) = true /\ n - (i + 1).toNat < n - i.toNat /\ (i + 1).toNat = i.toNat + 1 := by
 obtain ⟨h1, h2, h3⟩ := al_facts h
 refine ⟨w64 (by omega) (by omega), ?_, by omega, by omega⟩
 simp only [alPre, Zb, Za]; omega
theorem al_prev {n : Nat} {i : Int} (h : alPre n i = true) (h0 : 0 < i) : wrap .i64 (i - 1) = i - 1 /\ 0 <= i - 1 /\ i - 1 < (n : Int) /\ (i - 1).toNat = i.toNat - 1 /\ ¬ i.toNat = 0 := by
 obtain ⟨h1, h2, h3⟩ := al_facts h
 exact ⟨w64 (by omega) (by omega), by omega, by omega, by omega, by omega⟩
theorem al_next {ok : Nat -> Bool} {n : Nat} {i : Int} {r : β} (h : alPre n i = true) (hlt : i < (n : Int)) (hk : ok i.toNat = true) : alFn ok n (i + 1) r = alFn ok n i r := by
 obtain ⟨h1, h2, h3⟩ := al_facts h
 unfold alFn
 rw [show n - i.toNat = (n - (i + 1).toNat) + 1 by omega, allN, hk, Bool.true_and, show (i + 1).toNat = i.toNat + 1 by omega]
theorem al_stop {ok : Nat -> Bool} {n : Nat} {i : Int} {r : β} (h : alPre n i = true) (hlt : i < (n : Int)) (hk : ok i.toNat = false) : .inl (false, ()) = alFn ok n i r := by
 obtain ⟨h1, h2, h3⟩ := al_facts h
 unfold alFn
 rw [show n - i.toNat = (n - (i + 1).toNat) + 1 by omega, allN, hk]; rfl
theorem al_end {ok : Nat -> Bool} {n : Nat} {i : Int} {r : β} (h : alPre n i = true) (hlt : ¬ i < (n : Int)) : .inr r = alFn ok n i r := by
 obtain ⟨h1, h2, h3⟩ := al_facts h
 unfold alFn
 rw [show n - i.toNat = 0 by omega]; rfl
theorem al_start {n : Nat} (h : n <= 16777216) : alPre n 0 = true := by simp [alPre, h]
theorem al_all {ok : Nat -> Bool} {n : Nat} {r : β} : alFn ok n 0 r = cond (allN ok 0 n) (.inr r) (.inl (false, ())) := by simp [alFn]
end
def itOk (e : Item) : Bool := wordsOk e.2.1 && (wordsOk e.2.2.1 && (impl_within e.2.2.2.1 0 3 && impl_within e.2.2.2.2.1 0 100000))
def rowAt (x : Row) (j : Nat) : Bool := impl_within (x.2.2.1.getD j zd2).1 x.1 (wrap .i64 (x.2.1 - 1)) && ((decide (j = 0) || decide ((x.2.2.1.getD (j - 1) zd2).1 < (x.2.2.1.getD j zd2).1)) && itOk (x.2.2.1.getD j zd2))
def RowOk (x : Row) : Bool := impl_within x.1 0 x.2.1 && (decide (x.2.1 <= 100000) && (decide ((x.2.2.1.length : Int) <= 80) && allN (rowAt x) 0 x.2.2.1.length))
abbrev spec_RowOk := RowOk
abbrev spec_l3Item := itOk
namespace spec_l3Item
def pre (e : Item) : Bool := decide (e.1 <= e.1)
abbrev wf (x0 : Item) : Prop := wfA [(.val (.pair (.int .i64) (.pair .str (.pair .str zk10))) .f)] (x0, ())
noncomputable def raw (x0 : Item) : Option zt30 :=
 letB (wordsOk x0.2.1) fun v1 =>
 if v1 = true then
 letB (wordsOk x0.2.2.1) fun v2 =>
 if v2 = true then
 letB (impl_within x0.2.2.2.1 (0 : Int) (3 : Int)) fun v3 =>
 if v3 = true then
 letB (impl_within x0.2.2.2.2.1 (0 : Int) (100000 : Int)) fun v4 =>
 some ((), (v4, ()))
 else
 some ((), (false, ()))
 else
 some ((), (false, ()))
 else
 some ((), (false, ()))
theorem eq (x0 : Item) (_ : wf x0) (_ : pre x0 = true) : raw x0 = some ((), (spec_l3Item x0, ())) := by
 unfold raw
 show _ = some ((), (itOk x0, ()))
 unfold itOk
 simp only [letB]
 cases wordsOk x0.2.1 <;> cases wordsOk x0.2.2.1 <;> cases impl_within x0.2.2.2.1 0 3 <;> simp
end spec_l3Item
namespace spec_RowOk
abbrev S2 : Type := (Int × (Row × Unit))
abbrev O2 : Type := ((Bool × Unit) ⊕ (Row × Unit))
def pre (x : Row) : Bool := small x.2.2.1
def pre2 : S2 -> Bool := fun (x1, x2, _) => alPre x2.2.2.1.length x1
def fn2 : S2 -> O2 := fun (x1, x2, _) => alFn (rowAt x2) x2.2.2.1.length x1 (x2, ())
def mu2 : S2 -> Nat := fun (x1, x2, _) => x2.2.2.1.length - x1.toNat
noncomputable def raw2 (x1 : Int) (x2 : Row) : Option ((Int × (Row × Unit)) ⊕ ((Bool × Unit) ⊕ (Row × Unit))) :=
 if (decide (x1 < ((length x2.2.2.1 : Nat) : Int))) = true then
 if (decide ((0 : Int) <= x1)) = true then
 if (decide (x1 < ((length x2.2.2.1 : Nat) : Int))) = true then
 if (spec_l3Item.pre (List.getD x2.2.2.1 (Int.toNat x1) zd2)) = true then
 letB (itOk (List.getD x2.2.2.1 (Int.toNat x1) zd2)) fun v1 =>
 if (!v1) = true then
 some (.inr (.inl (false, ())))
 else
 if (decide ((0 : Int) <= x1)) = true then
 if (decide (x1 < ((length x2.2.2.1 : Nat) : Int))) = true then
 letB (impl_within (List.getD x2.2.2.1 (Int.toNat x1) zd2).1 x2.1 (wrap .i64 (x2.2.1 - (1 : Int)))) fun v2 =>
 if (!v2) = true then
 some (.inr (.inl (false, ())))
 else
 if (decide ((0 : Int) < x1)) = true then
 if (decide ((0 : Int) <= (wrap .i64 (x1 - (1 : Int))))) = true then
 if (decide ((wrap .i64 (x1 - (1 : Int))) < ((length x2.2.2.1 : Nat) : Int))) = true then
 if (decide ((0 : Int) <= x1)) = true then
 if (decide (x1 < ((length x2.2.2.1 : Nat) : Int))) = true then
 if (decide ((List.getD x2.2.2.1 (Int.toNat x1) zd2).1 <= (List.getD x2.2.2.1 (Int.toNat (wrap .i64 (x1 - (1 : Int)))) zd2).1)) = true then
 some (.inr (.inl (false, ())))
 else
 some (.inl ((wrap .i64 (x1 + (1 : Int))), (x2, ())))
 else
 none
 else
 none
 else
 none
 else
 none
 else
 some (.inl ((wrap .i64 (x1 + (1 : Int))), (x2, ())))
 else
 none
 else
 none
 else
 none
 else
 none
 else
 none
 else
 some (.inr (.inr (x2, ())))
abbrev wf (x0 : Row) : Prop := wfA [(.val zk23 .f)] (x0, ())
noncomputable def raw (x0 : Row) : Option zt30 :=
 if (spec_RowOk.pre2 ((0 : Int), (x0, ()))) = true then
  letB (spec_RowOk.fn2 ((0 : Int), (x0, ()))) fun v1 =>
  match v1 with
  | .inl y =>
   some ((), y)
  | .inr y =>
   letB (impl_within y.1.1 (0 : Int) y.1.2.1) fun v2 =>
   if v2 = true then
    if (decide (y.1.2.1 <= (100000 : Int))) = true then
     some ((), ((decide (((length y.1.2.2.1 : Nat) : Int) <= (80 : Int))), ()))
    else
     some ((), (false, ()))
   else
    some ((), (false, ()))
 else
  none
theorem ok2 (x1 : Int) (x2 : Row) (ha : pre2 (x1, (x2, ())) = true) : Rounds pre2 mu2 fn2 (x1, (x2, ())) (raw2 x1 x2) := by
 have ha : alPre x2.2.2.1.length x1 = true := ha
 obtain ⟨h1, h2, h3⟩ := al_facts ha
 unfold raw2
 by_cases hlt : x1 < (x2.2.2.1.length : Int)
 . obtain ⟨n1, n2, n3, n4⟩ := al_step ha hlt
   have nxt : rowAt x2 x1.toNat = true -> Rounds pre2 mu2 fn2 (x1, (x2, ())) (some (.inl (x1 + 1, (x2, ())))) := fun h => ⟨n2, n3, al_next ha hlt h⟩
   have stp : rowAt x2 x1.toNat = false -> Rounds pre2 mu2 fn2 (x1, (x2, ())) (some (.inr (.inl (false, ())))) := fun h => al_stop ha hlt h
   simp only [letB, n1, hlt, h2, decide_true, if_true, show spec_l3Item.pre (x2.2.2.1.getD x1.toNat zd2) = true from Zd (Int.le_refl _)]
   by_cases h0 : 0 < x1
   . obtain ⟨p1, p2, p3, p4, p5⟩ := al_prev ha h0
     simp only [p1, p2, p3, p4, h0, decide_true, if_true]
     simp only [rowAt, p5, decide_false, Bool.false_or] at nxt stp
     generalize x2.2.2.1.getD x1.toNat zd2 = e at *
     generalize x2.2.2.1.getD (x1.toNat - 1) zd2 = e' at *
     generalize impl_within e.1 x2.1 (wrap .i64 (x2.2.1 - 1)) = b1 at *
     generalize itOk e = b2 at *
     by_cases hd : e.1 <= e'.1
     . simp only [hd, show ¬ e'.1 < e.1 by omega, decide_true, decide_false, if_true] at *
       cases b1 <;> cases b2 <;> exact stp rfl
     . simp only [hd, show e'.1 < e.1 by omega, decide_true, decide_false] at *
       cases b1 <;> cases b2
       . exact stp rfl
       . exact stp rfl
       . exact stp rfl
       . exact nxt rfl
   . have p5 : x1.toNat = 0 := by omega
     simp only [h0, decide_false, Zj, if_false]
     simp only [rowAt, p5, decide_true, Bool.true_or, Bool.true_and] at nxt stp ⊢
     generalize x2.2.2.1.getD 0 zd2 = e at *
     generalize impl_within e.1 x2.1 (wrap .i64 (x2.2.1 - 1)) = b1 at *
     generalize itOk e = b2 at *
     cases b1 <;> cases b2
     . exact stp rfl
     . exact stp rfl
     . exact stp rfl
     . exact nxt rfl
 . rw [if_neg (by simp [hlt])]
   exact al_end ha hlt
theorem eq (x0 : Row) (_ : wf x0) (hp : pre x0 = true) : raw x0 = some ((), (spec_RowOk x0, ())) := by
 have hs := small_iff.1 hp
 unfold raw spec_RowOk RowOk
 rw [if_pos (show pre2 ((0 : Int), (x0, ())) = true from al_start hs), show fn2 ((0 : Int), (x0, ())) = _ from al_all]
 simp only [letB]
 cases allN (rowAt x0) 0 x0.2.2.1.length
 . simp
 simp only [cond_true]
 cases impl_within x0.1 0 x0.2.1 <;> cases decide (x0.2.1 <= 100000) <;> cases decide ((x0.2.2.1.length : Int) <= 80) <;> rfl
end spec_RowOk
def impl_isClient (n : Int) : Bool := impl_within n 0 3
def impl_allWithin (xs : List Int) (lo hi : Int) : Bool := xs.all fun n => impl_within n lo hi
def AnswerOk (a : Answer) : Bool := impl_within a.1 0 9 && (impl_within a.2.1 (-1) 100000 && (wordsOk a.2.2.1 && wordsOk a.2.2.2.1))
abbrev isClient := impl_isClient
def memAt (xs : List Int) (j : Nat) : Bool := isClient (xs.getD j (0 : Int)) && (decide (j = 0) || decide (xs.getD (j - 1) (0 : Int) < xs.getD j (0 : Int)))
def GroupOk (g : Group) (rows : Int) : Bool := decide ((g.2.2.1.length : Int) = (g.2.1.length : Int)) && (decide ((g.2.2.2.1.length : Int) = rows) && (impl_within g.1 0 100000 && (allN (memAt g.2.1) 0 g.2.1.length && (impl_allWithin g.2.2.1 0 100000 && impl_allWithin g.2.2.2.1 0 100000))))
def keepS (x : Keep) : Bool := small x.1 && (x.1.all (fun r : Row => small r.2.2.1) && (small x.2.1 && (x.2.1.all (fun m : Maker => small m.2.2.2.2.1) && (small x.2.2.1 && (x.2.2.1.all groupS && (small x.2.2.2.2.1 && small x.2.2.2.2.2.1))))))
def Wp {α : Type} (m : Option α) (Q : α -> Prop) : Prop := ∃ a, m = some a /\ Q a
section
variable {α β : Type} {Q : α -> Prop}
theorem W_some {a : α} (h : Q a) : Wp (some a) Q := ⟨a, rfl, h⟩
theorem W_if {c : Prop} [Decidable c] {A B : Option α} (h : c) (r : Wp A Q) : Wp (if c then A else B) Q := by rw [if_pos h]; exact r
theorem W_else {c : Prop} [Decidable c] {A B : Option α} (h : ¬ c) (r : Wp B Q) : Wp (if c then A else B) Q := by rw [if_neg h]; exact r
theorem W_ite {c : Prop} [Decidable c] {A B : Option α} (h1 : c -> Wp A Q) (h2 : ¬ c -> Wp B Q) : Wp (if c then A else B) Q := by
 by_cases h : c
 . exact W_if h (h1 h)
 . exact W_else h (h2 h)
theorem W_let {a : β} {f : β -> Option α} (r : Wp (f a) Q) : Wp (letB a f) Q := r
theorem W_fact {P : β -> Prop} {a : β} {f : β -> Option α} (h : P a) (r : ∀ b, P b -> Wp (f b) Q) : Wp (letB a f) Q := r a h
def got [Inhabited α] (m : Option α) : α := m.getD default
theorem got_eq [Inhabited α] {m : Option α} (h : Wp m Q) : m = some (got m) /\ Q (got m) := by
 obtain ⟨a, rfl, h⟩ := h
 exact ⟨rfl, h⟩
end
section
variable {S O : Type} [Inhabited O]
noncomputable def iter (raw : S -> Option (S ⊕ O)) : Nat -> S -> O
 | 0, _ => default
 | n + 1, s => match raw s with
  | some (.inl t) => iter raw n t
  | some (.inr o) => o
  | none => default
noncomputable def runF (raw : S -> Option (S ⊕ O)) (mu : S -> Nat) (s : S) : O := iter raw (mu s + 1) s
def Step (pre : S -> Bool) (mu : S -> Nat) (Q : S -> O -> Prop) (s : S) (r : S ⊕ O) : Prop := match r with
 | .inl t => pre t = true /\ mu t < mu s /\ ∀ o, Q t o -> Q s o
 | .inr o => Q s o
variable {pre : S -> Bool} {mu : S -> Nat} {Q : S -> O -> Prop} {raw : S -> Option (S ⊕ O)}
theorem iter_fuel (h : ∀ s, pre s = true -> Wp (raw s) (Step pre mu Q s)) : (n m : Nat) -> (s : S) -> pre s = true -> mu s < n -> mu s < m -> iter raw n s = iter raw m s
 | n + 1, m + 1, s, hp, h1, h2 => by
  obtain ⟨r, e, hr⟩ := h s hp
  simp only [iter, e]
  cases r with
  | inl t => exact iter_fuel h n m t hr.1 (by have := hr.2.1; omega) (by have := hr.2.1; omega)
  | inr o => rfl
 | 0, _, _, _, h1, _ => by omega
 | _ + 1, 0, _, _, _, h2 => by omega
theorem iter_q (h : ∀ s, pre s = true -> Wp (raw s) (Step pre mu Q s)) : (n : Nat) -> (s : S) -> pre s = true -> mu s < n -> Q s (iter raw n s)
 | n + 1, s, hp, h1 => by
  obtain ⟨r, e, hr⟩ := h s hp
  simp only [iter, e]
  cases r with
  | inl t => exact hr.2.2 _ (iter_q h n t hr.1 (by have := hr.2.1; omega))
  | inr o => exact hr
 | 0, _, _, h1 => by omega
theorem runF_q (h : ∀ s, pre s = true -> Wp (raw s) (Step pre mu Q s)) {s : S} (hp : pre s = true) : Q s (runF raw mu s) := iter_q h _ s hp (Nat.lt_succ_self _)
theorem runF_ok (h : ∀ s, pre s = true -> Wp (raw s) (Step pre mu Q s)) {s : S} (hp : pre s = true) : Rounds pre mu (runF raw mu) s (raw s) := by
 obtain ⟨r, e, hr⟩ := h s hp
 rw [e]
 cases r with
 | inl t =>
  refine ⟨hr.1, hr.2.1, ?_⟩
  show iter raw _ t = iter raw (mu s + 1) s
  simp only [iter, e]
  exact iter_fuel h _ _ t hr.1 (Nat.lt_succ_self _) hr.2.1
 | inr o =>
  show o = iter raw (mu s + 1) s
  simp only [iter, e]
end
section
variable {S A B : Type} [Inhabited A]
noncomputable def runS (raw : S -> Option (S ⊕ (A ⊕ B))) (mu : S -> Nat) (s : S) : A ⊕ B := @runF S (A ⊕ B) ⟨.inl default⟩ raw mu s
variable {pre : S -> Bool} {mu : S -> Nat} {Q : S -> (A ⊕ B) -> Prop} {raw : S -> Option (S ⊕ (A ⊕ B))}
theorem runS_q (h : ∀ s, pre s = true -> Wp (raw s) (Step pre mu Q s)) {s : S} (hp : pre s = true) : Q s (runS raw mu s) := @runF_q S (A ⊕ B) ⟨.inl default⟩ pre mu Q raw h s hp
theorem runS_ok (h : ∀ s, pre s = true -> Wp (raw s) (Step pre mu Q s)) {s : S} (hp : pre s = true) : Rounds pre mu (runS raw mu) s (raw s) := @runF_ok S (A ⊕ B) ⟨.inl default⟩ pre mu Q raw h s hp
end
abbrev Cur : Type := List Int × Mark
def curB (c : Cur) : Bool := decide (0 <= c.2.1) && decide (c.1.length <= 16777216)
theorem curB_iff {c : Cur} : curB c = true ↔ 0 <= c.2.1 /\ c.1.length <= 16777216 := by simp only [curB, Zb, Za]
def dP {α : Type} (Q : α -> Prop) (v : Cur × α) : Prop := curB v.1 = true /\ Q v.2
theorem and255 (x : Int) : 0 <= intBits .and .i64 x 255 /\ intBits .and .i64 x 255 <= 255 := by
 have h : (intBits .and .i64 x 255) = wrap .i64 (((BitVec.ofInt 64 x) &&& (BitVec.ofInt 64 255)).toNat : Int) := rfl
 rw [h, BitVec.toNat_and, ofInt_nat (x := 255) (by omega) (by decide)]
 have h2 : (BitVec.ofInt 64 x).toNat &&& Int.toNat 255 = (BitVec.ofInt 64 x).toNat % 256 := Nat.and_two_pow_sub_one_eq_mod _ 8
 rw [h2, w64 (by omega) (by omega)]
 omega
def rangeP (lo hi : Int) (n : Int) : Prop := lo <= n /\ n <= hi
namespace spec_l1New
abbrev S3 : Type := zt11
abbrev O3 : Type := Disk
def pre3 : S3 -> Bool := fun (x1, _, x3, _) => decide (0 <= x3) && decide (x1.length <= 16777216)
def mu3 : S3 -> Nat := fun (x1, _, x3, _) => x1.length - x3.toNat
noncomputable def raw3 (x1 : (List Int)) (x2 : Int) (x3 : Int) : Option (zt11 ⊕ Disk) :=
 if (decide (x3 < ((length x1 : Nat) : Int))) = true then
 if (decide (x3 < (4000 : Int))) = true then
 if (decide ((0 : Int) <= x3)) = true then
 if (decide (x3 < ((length x1 : Nat) : Int))) = true then
 some (.inl (x1, ((intBits .and .i64 (wrap .i64 ((wrap .i64 ((wrap .i64 (x2 * (131 : Int))) + (wrap .i64 (List.getD x1 (Int.toNat x3) (0 : Int))))) + (7 : Int))) (1073741823 : Int)), ((wrap .i64 (x3 + (1 : Int))), ()))))
 else
 none
 else
 none
 else
 some (.inr (x1, (x2, ())))
 else
 some (.inr (x1, (x2, ())))
theorem wp3 : ∀ s, pre3 s = true -> Wp ((fun (x : S3) => raw3 x.1 x.2.1 x.2.2.1) s) (Step pre3 mu3 (fun _ (o : O3) => o.1.length <= 16777216) s) := by
 rintro ⟨x1, x2, x3, ⟨⟩⟩ hp
 simp only [pre3, Zb, Za] at hp
 show Wp (raw3 x1 x2 x3) _
 unfold raw3
 refine W_ite (fun h1 => W_ite (fun h2 => ?_) fun _ => W_some hp.2) fun _ => W_some hp.2
 rw [Za] at h1 h2
 refine W_if (Zd hp.1) (W_if (Zd h1) (W_some ?_))
 refine ⟨?_, ?_, fun o h => h⟩
 . simp only [pre3, Zb, Za, w64 (n := x3 + 1) (by omega) (by omega)]; omega
 . simp only [mu3, w64 (n := x3 + 1) (by omega) (by omega)]; omega
noncomputable def fn3 : S3 -> O3 := runF (fun (x : S3) => raw3 x.1 x.2.1 x.2.2.1) mu3
theorem ok3 (x1 : List Int) (x2 x3 : Int) (hp : pre3 (x1, (x2, (x3, ()))) = true) : Rounds pre3 mu3 fn3 (x1, (x2, (x3, ()))) (raw3 x1 x2 x3) := runF_ok wp3 hp
def pre (x : List Int) : Bool := small x
abbrev wf (x0 : (List Int)) : Prop := wfA [(.val zk20 .f)] (x0, ())
noncomputable def raw (x0 : (List Int)) : Option (Unit × zt38) :=
 if (spec_l1New.pre3 (x0, ((wrap .i64 ((24548 : Int) + ((length x0 : Nat) : Int))), ((0 : Int), ())))) = true then
 letB (spec_l1New.fn3 (x0, ((wrap .i64 ((24548 : Int) + ((length x0 : Nat) : Int))), ((0 : Int), ())))) fun v1 =>
 some ((), ((v1.1, ((0 : Int), v1.2)), ()))
 else
 none
theorem wp (x0 : List Int) (hp : pre x0 = true) : Wp (raw x0) (fun r => curB r.2.1 = true) := by
 have hs := small_iff.1 hp
 unfold raw
 have h3 : pre3 (x0, ((wrap .i64 ((24548 : Int) + (x0.length : Int))), ((0 : Int), ()))) = true := by
  simp only [pre3, Zb, Za]; omega
 refine W_if h3 (W_fact (P := fun o : O3 => o.1.length <= 16777216) (runF_q wp3 h3) fun v hv => W_some ?_)
 rw [curB_iff]
 exact ⟨Int.le_refl _, hv⟩
noncomputable def val (x0 : List Int) : Cur := (got (raw x0)).2.1
theorem eq (x0 : List Int) (_ : wf x0) (hp : pre x0 = true) : raw x0 = some ((), (val x0, ())) := (got_eq (wp x0 hp)).1
end spec_l1New
noncomputable def spec_l1New (x0 : List Int) : Cur := spec_l1New.val x0
theorem spec_l1New_sp {x0 : List Int} (hp : small x0 = true) : curB (spec_l1New x0) = true := (got_eq (spec_l1New.wp x0 hp)).2
namespace spec_l1Byte
def pre (c : Cur) : Bool := curB c
abbrev wf (x0 : zt11) : Prop := wfA [(.ref zk34 .f)] (x0, ())
noncomputable def raw (x0 : zt11) : Option (zt38 × (Int × Unit)) :=
 if (decide ((0 : Int) <= (33 : Int))) = true then
 if (decide ((0 : Int) <= (45 : Int))) = true then
 if (decide (x0.2.1 < ((length x0.1 : Nat) : Int))) = true then
 if (decide ((0 : Int) <= x0.2.1)) = true then
 if (decide (x0.2.1 < ((length x0.1 : Nat) : Int))) = true then
 some (((x0.1, ((wrap .i64 (x0.2.1 + (1 : Int))), ((wrap .i64 ((wrap .i64 (x0.2.2.1 * (6364136223846793005 : Int))) + (1442695040888963407 : Int))), x0.2.2.2))), ()), ((intBits .and .i64 (wrap .i64 ((intBits .and .i64 (intBits .xor .i64 (Int.fdiv (wrap .i64 ((wrap .i64 (x0.2.2.1 * (6364136223846793005 : Int))) + (1442695040888963407 : Int))) (2 ^ min (Int.toNat (33 : Int)) (IntKind.bits .i64))) (Int.fdiv (wrap .i64 ((wrap .i64 (x0.2.2.1 * (6364136223846793005 : Int))) + (1442695040888963407 : Int))) (2 ^ min (Int.toNat (45 : Int)) (IntKind.bits .i64)))) (255 : Int)) + (wrap .i64 (List.getD x0.1 (Int.toNat x0.2.1) (0 : Int))))) (255 : Int)), ()))
 else
 none
 else
 none
 else
 some (((x0.1, (x0.2.1, ((wrap .i64 ((wrap .i64 (x0.2.2.1 * (6364136223846793005 : Int))) + (1442695040888963407 : Int))), x0.2.2.2))), ()), ((intBits .and .i64 (intBits .xor .i64 (Int.fdiv (wrap .i64 ((wrap .i64 (x0.2.2.1 * (6364136223846793005 : Int))) + (1442695040888963407 : Int))) (2 ^ min (Int.toNat (33 : Int)) (IntKind.bits .i64))) (Int.fdiv (wrap .i64 ((wrap .i64 (x0.2.2.1 * (6364136223846793005 : Int))) + (1442695040888963407 : Int))) (2 ^ min (Int.toNat (45 : Int)) (IntKind.bits .i64)))) (255 : Int)), ()))
 else
 none
 else
 none
theorem wp (x0 : Cur) (hp : pre x0 = true) : Wp (raw x0) (fun r => dP (rangeP 0 255) (r.1.1, r.2.1)) := by
 have hc := curB_iff.1 hp
 unfold raw
 refine W_if (by decide) (W_if (by decide) (W_ite (fun h => ?_) fun _ => W_some ⟨?_, and255 _⟩))
 . rw [Za] at h
   refine W_if (Zd hc.1) (W_if (Zd h) (W_some ⟨?_, and255 _⟩))
   show curB _ = true
   rw [curB_iff]
   have := w64 (n := x0.2.1 + 1) (by omega) (by omega)
   exact ⟨by show 0 <= wrap .i64 (x0.2.1 + 1); omega, hc.2⟩
 . show curB _ = true
   rw [curB_iff]; exact hc
noncomputable def val (x0 : Cur) : Cur × Int := ((got (raw x0)).1.1, (got (raw x0)).2.1)
theorem eq (x0 : Cur) (_ : wf x0) (hp : pre x0 = true) : raw x0 = some (((val x0).1, ()), ((val x0).2, ())) := (got_eq (wp x0 hp)).1
end spec_l1Byte
noncomputable def spec_l1Byte (x0 : Cur) : Cur × Int := spec_l1Byte.val x0
theorem spec_l1Byte_sp {x0 : Cur} (hp : curB x0 = true) : dP (rangeP 0 255) (spec_l1Byte x0) := (got_eq (spec_l1Byte.wp x0 hp)).2
def belowP (n : Int) (r : Int) : Prop := 0 <= r /\ (0 < n -> r < n)
namespace spec_l1Below
def pre (c : Cur) (_ : Int) : Bool := curB c
abbrev wf (x0 : zt11) (x1 : Int) : Prop := wfA [(.ref zk34 .f), (.val (.int .i64) .f)] (x0, (x1, ()))
noncomputable def raw (x0 : zt11) (x1 : Int) : Option (zt38 × (Int × Unit)) :=
 if (decide (x1 <= (0 : Int))) = true then
 some ((x0, ()), ((0 : Int), ()))
 else
 if (decide (x1 <= (256 : Int))) = true then
 if (spec_l1Byte.pre x0) = true then
 if (!(decide (x1 = (0 : Int)))) = true then
 letB (spec_l1Byte x0) fun v1 =>
 some ((v1.1, ()), ((Int.tmod v1.2 x1), ()))
 else
 none
 else
 none
 else
 if (spec_l1Byte.pre x0) = true then
 letB (spec_l1Byte x0) fun v2 =>
 if (spec_l1Byte.pre v2.1) = true then
 letB (spec_l1Byte v2.1) fun v3 =>
 if (spec_l1Byte.pre v3.1) = true then
 letB (spec_l1Byte v3.1) fun v4 =>
 if (spec_l1Byte.pre v4.1) = true then
 if (!(decide (x1 = (0 : Int)))) = true then
 letB (spec_l1Byte v4.1) fun v5 =>
 some ((v5.1, ()), ((Int.tmod (wrap .i64 ((wrap .i64 ((wrap .i64 ((wrap .i64 (v2.2 * (16777216 : Int))) + (wrap .i64 (v3.2 * (65536 : Int))))) + (wrap .i64 (v4.2 * (256 : Int))))) + v5.2)) x1), ()))
 else
 none
 else
 none
 else
 none
 else
 none
 else
 none
theorem tmod_below {a n : Int} (h : 0 <= a) (hn : 0 < n) : belowP n (Int.tmod a n) := ⟨Int.tmod_nonneg _ h, fun _ => Int.tmod_lt_of_pos _ hn⟩
theorem wp (x0 : Cur) (x1 : Int) (hp : pre x0 x1 = true) : Wp (raw x0 x1) (fun r => dP (belowP x1) (r.1.1, r.2.1)) := by
 unfold raw
 have hp : curB x0 = true := hp
 refine W_ite (fun h => ?_) fun h => ?_
 . rw [Za] at h
   exact W_some ⟨hp, Int.le_refl _, fun h2 => by omega⟩
 rw [Za] at h
 have hn : (!decide (x1 = 0)) = true := by simp; omega
 have p : ∀ {c : Cur}, curB c = true -> spec_l1Byte.pre c = true := fun h => h
 refine W_ite (fun h2 => ?_) fun h2 => ?_
 . exact W_if (p hp) (W_if hn (W_fact (spec_l1Byte_sp hp) fun v hv => W_some ⟨hv.1, tmod_below hv.2.1 (by omega)⟩))
 . refine W_if (p hp) (W_fact (spec_l1Byte_sp hp) fun a ha => W_if (p ha.1) (W_fact (spec_l1Byte_sp ha.1) fun b hb => W_if (p hb.1) (W_fact (spec_l1Byte_sp hb.1) fun c hc => W_if (p hc.1) (W_if hn (W_fact (spec_l1Byte_sp hc.1) fun d hd => W_some ⟨hd.1, tmod_below ?_ (by omega)⟩)))))
   have a1 := ha.2; have b1 := hb.2; have c1 := hc.2; have d1 := hd.2
   simp only [rangeP] at a1 b1 c1 d1
   rw [w64 (n := a.2 * 16777216) (by omega) (by omega), w64 (n := b.2 * 65536) (by omega) (by omega), w64 (n := c.2 * 256) (by omega) (by omega), w64 (n := a.2 * 16777216 + b.2 * 65536) (by omega) (by omega), w64 (n := a.2 * 16777216 + b.2 * 65536 + c.2 * 256) (by omega) (by omega), w64 (by omega) (by omega)]
   omega
noncomputable def val (x0 : Cur) (x1 : Int) : Cur × Int := ((got (raw x0 x1)).1.1, (got (raw x0 x1)).2.1)
theorem eq (x0 : Cur) (x1 : Int) (_ : wf x0 x1) (hp : pre x0 x1 = true) : raw x0 x1 = some (((val x0 x1).1, ()), ((val x0 x1).2, ())) := (got_eq (wp x0 x1 hp)).1
end spec_l1Below
noncomputable def spec_l1Below (x0 : Cur) (x1 : Int) : Cur × Int := spec_l1Below.val x0 x1
theorem spec_l1Below_sp {x0 : Cur} {x1 : Int} (hp : curB x0 = true) : dP (belowP x1) (spec_l1Below x0 x1) := (got_eq (spec_l1Below.wp x0 x1 hp)).2
namespace spec_l1Once
def pre (c : Cur) (_ : Int) : Bool := curB c
abbrev wf (x0 : zt11) (x1 : Int) : Prop := wfA [(.ref zk34 .f), (.val (.int .i64) .f)] (x0, (x1, ()))
noncomputable def raw (x0 : zt11) (x1 : Int) : Option (zt38 × (Bool × Unit)) :=
 if (spec_l1Below.pre x0 x1) = true then
 letB (spec_l1Below x0 x1) fun v1 =>
 some ((v1.1, ()), ((decide (v1.2 = (0 : Int))), ()))
 else
 none
theorem wp (x0 : Cur) (x1 : Int) (hp : pre x0 x1 = true) : Wp (raw x0 x1) (fun r => dP (fun _ => True) (r.1.1, r.2.1)) := by
 unfold raw
 exact W_if (show spec_l1Below.pre x0 x1 = true from hp) (W_fact (spec_l1Below_sp hp) fun v hv => W_some ⟨hv.1, trivial⟩)
noncomputable def val (x0 : Cur) (x1 : Int) : Cur × Bool := ((got (raw x0 x1)).1.1, (got (raw x0 x1)).2.1)
theorem eq (x0 : Cur) (x1 : Int) (_ : wf x0 x1) (hp : pre x0 x1 = true) : raw x0 x1 = some (((val x0 x1).1, ()), ((val x0 x1).2, ())) := (got_eq (wp x0 x1 hp)).1
end spec_l1Once
noncomputable def spec_l1Once (x0 : Cur) (x1 : Int) : Cur × Bool := spec_l1Once.val x0 x1
theorem spec_l1Once_sp {x0 : Cur} {x1 : Int} (hp : curB x0 = true) : dP (fun _ => True) (spec_l1Once x0 x1) := (got_eq (spec_l1Once.wp x0 x1 hp)).2
namespace spec_l1PickInt
def pre (c : Cur) (l : List Int) : Bool := curB c && decide (0 < l.length)
abbrev wf (x0 : zt11) (x1 : (List Int)) : Prop := wfA [(.ref zk34 .f), (.val (.sl 0 (.int .i64)) .o)] (x0, (x1, ()))
noncomputable def raw (x0 : zt11) (x1 : (List Int)) : Option (zt38 × (Int × Unit)) :=
 if (spec_l1Below.pre x0 ((length x1 : Nat) : Int)) = true then
 letB (spec_l1Below x0 ((length x1 : Nat) : Int)) fun v1 =>
 if (decide ((0 : Int) <= v1.2)) = true then
 if (decide (v1.2 < ((length x1 : Nat) : Int))) = true then
 some ((v1.1, ()), ((List.getD x1 (Int.toNat v1.2) (0 : Int)), ()))
 else
 none
 else
 none
 else
 none
theorem wp (x0 : Cur) (x1 : List Int) (hp : pre x0 x1 = true) : Wp (raw x0 x1) (fun r => dP (fun n => n ∈ x1) (r.1.1, r.2.1)) := by
 unfold raw
 simp only [pre, Zb, Za] at hp
 refine W_if (show spec_l1Below.pre x0 _ = true from hp.1) (W_fact (spec_l1Below_sp hp.1) fun v hv => ?_)
 have h1 := hv.2.1
 have h2 := hv.2.2 (by omega)
 refine W_if (Zd h1) (W_if (Zd h2) (W_some ⟨hv.1, ?_⟩))
 show x1.getD v.2.toNat 0 ∈ x1
 rw [getD_get (by omega)]
 exact List.getElem_mem _
noncomputable def val (x0 : Cur) (x1 : List Int) : Cur × Int := ((got (raw x0 x1)).1.1, (got (raw x0 x1)).2.1)
theorem eq (x0 : Cur) (x1 : List Int) (_ : wf x0 x1) (hp : pre x0 x1 = true) : raw x0 x1 = some (((val x0 x1).1, ()), ((val x0 x1).2, ())) := (got_eq (wp x0 x1 hp)).1
end spec_l1PickInt
noncomputable def spec_l1PickInt (x0 : Cur) (x1 : List Int) : Cur × Int := spec_l1PickInt.val x0 x1
theorem spec_l1PickInt_sp {x0 : Cur} {x1 : List Int} (hp : spec_l1PickInt.pre x0 x1 = true) : dP (fun n => n ∈ x1) (spec_l1PickInt x0 x1) := (got_eq (spec_l1PickInt.wp x0 x1 hp)).2
namespace spec_l1Pick
def pre (c : Cur) (l : List (List UInt8)) : Bool := curB c && decide (0 < l.length)
abbrev wf (x0 : zt11) (x1 : (List (List UInt8))) : Prop := wfA [(.ref zk34 .f), (.val (.sl 0 .str) .o)] (x0, (x1, ()))
noncomputable def raw (x0 : zt11) (x1 : (List (List UInt8))) : Option (zt38 × zt33) :=
 if (spec_l1Below.pre x0 ((length x1 : Nat) : Int)) = true then
 letB (spec_l1Below x0 ((length x1 : Nat) : Int)) fun v1 =>
 if (decide ((0 : Int) <= v1.2)) = true then
 if (decide (v1.2 < ((length x1 : Nat) : Int))) = true then
 some ((v1.1, ()), ((List.getD x1 (Int.toNat v1.2) ([] : List UInt8)), ()))
 else
 none
 else
 none
 else
 none
theorem wp (x0 : Cur) (x1 : List (List UInt8)) (hp : pre x0 x1 = true) : Wp (raw x0 x1) (fun r => dP (fun n => n ∈ x1) (r.1.1, r.2.1)) := by
 unfold raw
 simp only [pre, Zb, Za] at hp
 refine W_if (show spec_l1Below.pre x0 _ = true from hp.1) (W_fact (spec_l1Below_sp hp.1) fun v hv => ?_)
 have h1 := hv.2.1
 have h2 := hv.2.2 (by omega)
 refine W_if (Zd h1) (W_if (Zd h2) (W_some ⟨hv.1, ?_⟩))
 show x1.getD v.2.toNat [] ∈ x1
 rw [getD_get (by omega)]
 exact List.getElem_mem _
noncomputable def val (x0 : Cur) (x1 : List (List UInt8)) : Cur × List UInt8 := ((got (raw x0 x1)).1.1, (got (raw x0 x1)).2.1)
theorem eq (x0 : Cur) (x1 : List (List UInt8)) (_ : wf x0 x1) (hp : pre x0 x1 = true) : raw x0 x1 = some (((val x0 x1).1, ()), ((val x0 x1).2, ())) := (got_eq (wp x0 x1 hp)).1
end spec_l1Pick
noncomputable def spec_l1Pick (x0 : Cur) (x1 : List (List UInt8)) : Cur × List UInt8 := spec_l1Pick.val x0 x1
theorem spec_l1Pick_sp {x0 : Cur} {x1 : List (List UInt8)} (hp : spec_l1Pick.pre x0 x1 = true) : dP (fun n => n ∈ x1) (spec_l1Pick x0 x1) := (got_eq (spec_l1Pick.wp x0 x1 hp)).2
theorem pick_pre {c : Cur} {l : List Int} (h : curB c = true) (h2 : 0 < l.length) : spec_l1PickInt.pre c l = true := by simp only [spec_l1PickInt.pre, h, Bool.true_and, Za]; exact h2
theorem pickT_pre {c : Cur} {l : List (List UInt8)} (h : curB c = true) (h2 : 0 < l.length) : spec_l1Pick.pre c l = true := by simp only [spec_l1Pick.pre, h, Bool.true_and, Za]; exact h2
namespace spec_l1DrawRight
def pre (c : Cur) : Bool := curB c
abbrev wf (x0 : zt11) : Prop := wfA [(.ref zk34 .f)] (x0, ())
noncomputable def raw (x0 : zt11) : Option (zt38 × (Setup × Unit)) :=
 if (spec_l1Below.pre x0 (3 : Int)) = true then
 letB (spec_l1Below x0 (3 : Int)) fun v1 =>
 if (spec_l1PickInt.pre v1.1 ((1 : Int) :: ((2 : Int) :: ((5 : Int) :: ([] : List Int))))) = true then
 letB (spec_l1PickInt v1.1 ((1 : Int) :: ((2 : Int) :: ((5 : Int) :: ([] : List Int))))) fun v2 =>
 if (spec_l1PickInt.pre v2.1 ((1 : Int) :: ((2 : Int) :: ((3 : Int) :: ((8 : Int) :: ([] : List Int)))))) = true then
 letB (spec_l1PickInt v2.1 ((1 : Int) :: ((2 : Int) :: ((3 : Int) :: ((8 : Int) :: ([] : List Int)))))) fun v3 =>
 if (spec_l1PickInt.pre v3.1 ((0 : Int) :: ((1 : Int) :: ((3 : Int) :: ((10 : Int) :: ([] : List Int)))))) = true then
 letB (spec_l1PickInt v3.1 ((0 : Int) :: ((1 : Int) :: ((3 : Int) :: ((10 : Int) :: ([] : List Int)))))) fun v4 =>
 some ((v4.1, ()), (((wrap .i64 ((1 : Int) + v1.2)), (v2.2, (v3.2, (v4.2, ())))), ()))
 else
 none
 else
 none
 else
 none
 else
 none
theorem wp (x0 : Cur) (hp : pre x0 = true) : Wp (raw x0) (fun r => dP (fun s => SetupOk s = true) (r.1.1, r.2.1)) := by
 unfold raw
 have hp : curB x0 = true := hp
 refine W_if (show spec_l1Below.pre x0 _ = true from hp) (W_fact (spec_l1Below_sp hp) fun a ha => W_if (pick_pre ha.1 (by decide)) (W_fact (spec_l1PickInt_sp (pick_pre ha.1 (by decide))) fun b hb => W_if (pick_pre hb.1 (by decide)) (W_fact (spec_l1PickInt_sp (pick_pre hb.1 (by decide))) fun c hc => W_if (pick_pre hc.1 (by decide)) (W_fact (spec_l1PickInt_sp (pick_pre hc.1 (by decide))) fun d hd => W_some ⟨hd.1, ?_⟩))))
 have a1 := ha.2.1; have a2 := ha.2.2 (by decide)
 have b1 := hb.2; have c1 := hc.2; have d1 := hd.2
 simp only [List.mem_cons, List.not_mem_nil, or_false] at b1 c1 d1
 show SetupOk (wrap .i64 (1 + a.2), (b.2, (c.2, (d.2, ())))) = true
 rw [w64 (n := 1 + a.2) (by omega) (by omega)]
 simp only [SetupOk, impl_within, Zb, Za]
 omega
noncomputable def val (x0 : Cur) : Cur × Setup := ((got (raw x0)).1.1, (got (raw x0)).2.1)
theorem eq (x0 : Cur) (_ : wf x0) (hp : pre x0 = true) : raw x0 = some (((val x0).1, ()), ((val x0).2, ())) := (got_eq (wp x0 hp)).1
end spec_l1DrawRight
noncomputable def spec_l1DrawRight (x0 : Cur) : Cur × Setup := spec_l1DrawRight.val x0
theorem spec_l1DrawRight_sp {x0 : Cur} (hp : curB x0 = true) : dP (fun s => SetupOk s = true) (spec_l1DrawRight x0) := (got_eq (spec_l1DrawRight.wp x0 hp)).2
namespace spec_l2DrawText
def pre (c : Cur) : Bool := curB c
abbrev wf (x0 : zt11) : Prop := wfA [(.ref zk34 .f)] (x0, ())
noncomputable def raw (x0 : zt11) : Option (zt38 × zt33) :=
 if (spec_l1Pick.pre x0 (([] : List UInt8) :: (((97 : UInt8) :: ([] : List UInt8)) :: (((98 : UInt8) :: ([] : List UInt8)) :: (((107 : UInt8) :: ((32 : UInt8) :: ((49 : UInt8) :: ([] : List UInt8)))) :: (((116 : UInt8) :: ((101 : UInt8) :: ((120 : UInt8) :: ((116 : UInt8) :: ([] : List UInt8))))) :: ([] : List (List UInt8)))))))) = true then
 letB (spec_l1Pick x0 (([] : List UInt8) :: (((97 : UInt8) :: ([] : List UInt8)) :: (((98 : UInt8) :: ([] : List UInt8)) :: (((107 : UInt8) :: ((32 : UInt8) :: ((49 : UInt8) :: ([] : List UInt8)))) :: (((116 : UInt8) :: ((101 : UInt8) :: ((120 : UInt8) :: ((116 : UInt8) :: ([] : List UInt8))))) :: ([] : List (List UInt8)))))))) fun v1 =>
 some ((v1.1, ()), (v1.2, ()))
 else
 none
theorem wp (x0 : Cur) (hp : pre x0 = true) : Wp (raw x0) (fun r => dP (fun t => wordsOk t = true) (r.1.1, r.2.1)) := by
 unfold raw
 have hp : curB x0 = true := hp
 refine W_if (pickT_pre hp (by decide)) (W_fact (spec_l1Pick_sp (pickT_pre hp (by decide))) fun v hv => W_some ⟨hv.1, ?_⟩)
 have h := hv.2
 simp only [List.mem_cons, List.not_mem_nil, or_false] at h
 show wordsOk v.2 = true
 rcases h with h | h | h | h | h <;> rw [h] <;> decide
noncomputable def val (x0 : Cur) : Cur × List UInt8 := ((got (raw x0)).1.1, (got (raw x0)).2.1)
theorem eq (x0 : Cur) (_ : wf x0) (hp : pre x0 = true) : raw x0 = some (((val x0).1, ()), ((val x0).2, ())) := (got_eq (wp x0 hp)).1
end spec_l2DrawText
noncomputable def spec_l2DrawText (x0 : Cur) : Cur × List UInt8 := spec_l2DrawText.val x0
theorem spec_l2DrawText_sp {x0 : Cur} (hp : curB x0 = true) : dP (fun t => wordsOk t = true) (spec_l2DrawText x0) := (got_eq (spec_l2DrawText.wp x0 hp)).2
def bodyP (c : Cmd) : Prop := c.1 = 0 /\ c.2.1 = 0 /\ rangeP 1 10 c.2.2.1 /\ rangeP 0 60 c.2.2.2.1 /\ rangeP 0 4 c.2.2.2.2.1 /\ rangeP 0 4 c.2.2.2.2.2.1 /\ wordsOk c.2.2.2.2.2.2.1 = true /\ wordsOk c.2.2.2.2.2.2.2.1 = true
namespace spec_l2DrawBody
def pre (c : Cur) : Bool := curB c
abbrev wf (x0 : zt11) : Prop := wfA [(.ref zk34 .f)] (x0, ())
noncomputable def raw (x0 : zt11) : Option (zt38 × (Cmd × Unit)) :=
 if (spec_l1PickInt.pre x0 ((1 : Int) :: ((1 : Int) :: ((1 : Int) :: ((2 : Int) :: ((2 : Int) :: ((3 : Int) :: ((4 : Int) :: ((4 : Int) :: ((5 : Int) :: ((6 : Int) :: ((7 : Int) :: ((8 : Int) :: ((9 : Int) :: ((10 : Int) :: ([] : List Int)))))))))))))))) = true then
 letB (spec_l1PickInt x0 ((1 : Int) :: ((1 : Int) :: ((1 : Int) :: ((2 : Int) :: ((2 : Int) :: ((3 : Int) :: ((4 : Int) :: ((4 : Int) :: ((5 : Int) :: ((6 : Int) :: ((7 : Int) :: ((8 : Int) :: ((9 : Int) :: ((10 : Int) :: ([] : List Int)))))))))))))))) fun v1 =>
 if (spec_l1Below.pre v1.1 (3 : Int)) = true then
 letB (spec_l1Below v1.1 (3 : Int)) fun v2 =>
 if (spec_l1Below.pre v2.1 (4 : Int)) = true then
 letB (spec_l1Below v2.1 (4 : Int)) fun v3 =>
 if (spec_l1Below.pre v3.1 (3 : Int)) = true then
 if (decide (v1.2 = (1 : Int))) = true then
 letB (spec_l1Below v3.1 (3 : Int)) fun v4 =>
 if (spec_l2DrawText.pre v4.1) = true then
 letB (spec_l2DrawText v4.1) fun v5 =>
 if (spec_l2DrawText.pre v5.1) = true then
 letB (spec_l2DrawText v5.1) fun v6 =>
 if (spec_l1PickInt.pre v6.1 ((0 : Int) :: ((0 : Int) :: ((0 : Int) :: ((1 : Int) :: ([] : List Int)))))) = true then
 letB (spec_l1PickInt v6.1 ((0 : Int) :: ((0 : Int) :: ((0 : Int) :: ((1 : Int) :: ([] : List Int)))))) fun v7 =>
 some ((v7.1, ()), (((0 : Int), ((0 : Int), (v1.2, (v2.2, (v3.2, (v7.2, (v5.2, (v6.2, ())))))))), ()))
 else
 none
 else
 none
 else
 none
 else
 if (decide (v1.2 = (8 : Int))) = true then
 letB (spec_l1Below v3.1 (3 : Int)) fun v8 =>
 if (spec_l1PickInt.pre v8.1 ((0 : Int) :: ((10 : Int) :: ((60 : Int) :: ([] : List Int))))) = true then
 letB (spec_l1PickInt v8.1 ((0 : Int) :: ((10 : Int) :: ((60 : Int) :: ([] : List Int))))) fun v9 =>
 some ((v9.1, ()), (((0 : Int), ((0 : Int), (v1.2, (v9.2, (v3.2, (v8.2, (([] : List UInt8), (([] : List UInt8), ())))))))), ()))
 else
 none
 else
 letB (spec_l1Below v3.1 (3 : Int)) fun v10 =>
 some ((v10.1, ()), (((0 : Int), ((0 : Int), (v1.2, (v2.2, (v3.2, (v10.2, (([] : List UInt8), (([] : List UInt8), ())))))))), ()))
 else
 none
 else
 none
 else
 none
 else
 none
theorem wp (x0 : Cur) (hp : pre x0 = true) : Wp (raw x0) (fun r => dP bodyP (r.1.1, r.2.1)) := by
 unfold raw
 have hp : curB x0 = true := hp
 have p1 : ∀ {c : Cur} {n : Int}, curB c = true -> spec_l1Below.pre c n = true := fun h => h
 have p2 : ∀ {c : Cur}, curB c = true -> spec_l2DrawText.pre c = true := fun h => h
 refine W_if (pick_pre hp (by decide)) (W_fact (spec_l1PickInt_sp (pick_pre hp (by decide))) fun o ho => ?_)
 have ho2 := ho.2
 simp only [List.mem_cons, List.not_mem_nil, or_false] at ho2
 have o1 : rangeP 1 10 o.2 := by simp only [rangeP]; omega
 have ho := ho.1
 have key : ∀ {a : Int}, belowP 3 a -> rangeP 0 60 a /\ rangeP 0 4 a := fun h => by
  have h2 := h.2 (by decide)
  exact ⟨⟨h.1, by omega⟩, h.1, by omega⟩
 have key4 : ∀ {a : Int}, belowP 4 a -> rangeP 0 4 a := fun h => by
  have h2 := h.2 (by decide)
  exact ⟨h.1, by omega⟩
 refine W_if (p1 ho) (W_fact (spec_l1Below_sp ho) fun a ha => W_if (p1 ha.1) (W_fact (spec_l1Below_sp ha.1) fun b hb => W_if (p1 hb.1) (W_ite (fun e => ?_) fun _ => W_ite (fun e => ?_) fun e => ?_)))
 . refine W_fact (spec_l1Below_sp hb.1) fun c hc => W_if (p2 hc.1) (W_fact (spec_l2DrawText_sp hc.1) fun d hd => W_if (p2 hd.1) (W_fact (spec_l2DrawText_sp hd.1) fun f hf => W_if (pick_pre hf.1 (by decide)) (W_fact (spec_l1PickInt_sp (pick_pre hf.1 (by decide))) fun g hg => W_some ⟨hg.1, rfl, rfl, o1, (key ha.2).1, key4 hb.2, ?_, hd.2, hf.2⟩)))
   have := hg.2
   simp only [List.mem_cons, List.not_mem_nil, or_false] at this
   show rangeP 0 4 g.2
   simp only [rangeP]; omega
 . refine W_fact (spec_l1Below_sp hb.1) fun c hc => W_if (pick_pre hc.1 (by decide)) (W_fact (spec_l1PickInt_sp (pick_pre hc.1 (by decide))) fun g hg => W_some ⟨hg.1, rfl, rfl, o1, ?_, key4 hb.2, (key hc.2).2, rfl, rfl⟩)
   have := hg.2
   simp only [List.mem_cons, List.not_mem_nil, or_false] at this
   show rangeP 0 60 g.2
   simp only [rangeP]; omega
 . exact W_fact (spec_l1Below_sp hb.1) fun c hc => W_some ⟨hc.1, rfl, rfl, o1, (key ha.2).1, key4 hb.2, (key hc.2).2, rfl, rfl⟩
noncomputable def val (x0 : Cur) : Cur × Cmd := ((got (raw x0)).1.1, (got (raw x0)).2.1)
theorem eq (x0 : Cur) (_ : wf x0) (hp : pre x0 = true) : raw x0 = some (((val x0).1, ()), ((val x0).2, ())) := (got_eq (wp x0 hp)).1
end spec_l2DrawBody
noncomputable def spec_l2DrawBody (x0 : Cur) : Cur × Cmd := spec_l2DrawBody.val x0
theorem spec_l2DrawBody_sp {x0 : Cur} (hp : curB x0 = true) : dP bodyP (spec_l2DrawBody x0) := (got_eq (spec_l2DrawBody.wp x0 hp)).2
def smallCmd (c : Cmd) : Prop := CmdOk c = true /\ (c.1 = -1 \/ (0 <= c.1 /\ c.2.1 <= 6))
theorem body_ok {c : Cmd} {w q : Int} (h : bodyP c) (hw : rangeP 0 3 w) (hq : rangeP 1 100000 q) : CmdOk (w, (q, c.2.2)) = true := by
 obtain ⟨_, _, h3, h4, h5, h6, h7, h8⟩ := h
 simp only [rangeP] at *
 unfold CmdOk
 rw [if_neg (by show ¬ w = -1; omega)]
 simp only [impl_within, Zb, Za]
 exact ⟨by omega, by omega, by omega, by omega, by omega, by omega, h7, h8⟩
theorem none_ok : CmdOk ((-1 : Int), zd35) = true := by decide
namespace spec_l2DrawRight
def pre (c : Cur) : Bool := curB c
abbrev wf (x0 : zt11) : Prop := wfA [(.ref zk34 .f)] (x0, ())
noncomputable def raw (x0 : zt11) : Option (zt38 × (Cmd × Unit)) :=
 if (spec_l1Once.pre x0 (10 : Int)) = true then
 letB (spec_l1Once x0 (10 : Int)) fun v1 =>
 if v1.2 = true then
 some ((v1.1, ()), (((-1 : Int), zd35), ()))
 else
 if (spec_l2DrawBody.pre v1.1) = true then
 letB (spec_l2DrawBody v1.1) fun v2 =>
 if (spec_l1Below.pre v2.1 (4 : Int)) = true then
 letB (spec_l1Below v2.1 (4 : Int)) fun v3 =>
 if (spec_l1Below.pre v3.1 (6 : Int)) = true then
 letB (spec_l1Below v3.1 (6 : Int)) fun v4 =>
 some ((v4.1, ()), ((v3.2, ((wrap .i64 ((1 : Int) + v4.2)), v2.2.2.2)), ()))
 else
 none
 else
 none
 else
 none
 else
 none
theorem wp (x0 : Cur) (hp : pre x0 = true) : Wp (raw x0) (fun r => dP smallCmd (r.1.1, r.2.1)) := by
 unfold raw
 have hp : curB x0 = true := hp
 refine W_if (show spec_l1Once.pre x0 _ = true from hp) (W_fact (spec_l1Once_sp hp) fun o ho => W_ite (fun _ => W_some ⟨ho.1, ⟨none_ok, .inl rfl⟩⟩) fun _ => ?_)
 refine W_if (show spec_l2DrawBody.pre o.1 = true from ho.1) (W_fact (spec_l2DrawBody_sp ho.1) fun a ha => W_if (show spec_l1Below.pre a.1 _ = true from ha.1) (W_fact (spec_l1Below_sp ha.1) fun b hb => W_if (show spec_l1Below.pre b.1 _ = true from hb.1) (W_fact (spec_l1Below_sp hb.1) fun c hc => W_some ⟨hc.1, ?_⟩)))
 have b1 := hb.2.1; have b2 := hb.2.2 (by decide)
 have c1 := hc.2.1; have c2 := hc.2.2 (by decide)
 have e := w64 (n := 1 + c.2) (by omega) (by omega)
 show smallCmd (b.2, (wrap .i64 (1 + c.2), a.2.2.2))
 rw [e]
 exact ⟨body_ok ha.2 ⟨b1, by omega⟩ ⟨by omega, by omega⟩, .inr ⟨b1, by show 1 + c.2 <= 6; omega⟩⟩
noncomputable def val (x0 : Cur) : Cur × Cmd := ((got (raw x0)).1.1, (got (raw x0)).2.1)
theorem eq (x0 : Cur) (_ : wf x0) (hp : pre x0 = true) : raw x0 = some (((val x0).1, ()), ((val x0).2, ())) := (got_eq (wp x0 hp)).1
end spec_l2DrawRight
noncomputable def spec_l2DrawRight (x0 : Cur) : Cur × Cmd := spec_l2DrawRight.val x0
theorem spec_l2DrawRight_sp {x0 : Cur} (hp : curB x0 = true) : dP smallCmd (spec_l2DrawRight x0) := (got_eq (spec_l2DrawRight.wp x0 hp)).2
theorem cmd_seq {c : Cmd} {q : Int} (h : CmdOk c = true) (h0 : 0 <= c.1) (hq : rangeP 1 100000 q) : CmdOk (c.1, (q, c.2.2)) = true := by
 unfold CmdOk at h ⊢
 rw [if_neg (by omega)] at h
 rw [if_neg (by show ¬ c.1 = -1; omega)]
 simp only [Zb] at h ⊢
 exact ⟨h.1, by simp only [rangeP] at hq; simp only [impl_within, Zb, Za]; exact hq, h.2.2⟩
def cmdsP (n : Int) (l : List Cmd) : Prop := (l.length : Int) <= n /\ l.all CmdOk = true
namespace spec_l6DrawCmds
abbrev S4 : Type := (Int × (Int × (zt11 × ((List Cmd) × Unit))))
abbrev O4 : Type := (zt11 × ((List Cmd) × Unit))
def pre4 : S4 -> Bool := fun (x1, x2, x3, x4, _) => decide (x1 <= 100) && (decide (0 <= x2) && (curB x3 && (decide ((x4.length : Int) = x2) && x4.all CmdOk)))
def mu4 : S4 -> Nat := fun (x1, x2, _, _, _) => (x1 - x2).toNat
def Q4 (s : S4) (o : O4) : Prop := curB o.1 = true /\ cmdsP (max s.1 s.2.1) o.2.1
noncomputable def raw4 (x1 : Int) (x2 : Int) (x3 : zt11) (x4 : (List Cmd)) : Option ((Int × (Int × (zt11 × ((List Cmd) × Unit)))) ⊕ (zt11 × ((List Cmd) × Unit))) :=
 if (decide (x2 < x1)) = true then
 if (spec_l2DrawRight.pre x3) = true then
 letB (spec_l2DrawRight x3) fun v1 =>
 if (decide ((0 : Int) <= v1.2.1)) = true then
 if (spec_l1Once.pre v1.1 (4 : Int)) = true then
 letB (spec_l1Once v1.1 (4 : Int)) fun v2 =>
 if (!v2.2) = true then
 if (decide (length x4 + length ((v1.2.1, ((wrap .i64 (x2 + (1 : Int))), v1.2.2.2)) :: ([] : List Cmd)) <= lim)) = true then
 some (.inl (x1, ((wrap .i64 (x2 + (1 : Int))), (v2.1, ((List.append x4 ((v1.2.1, ((wrap .i64 (x2 + (1 : Int))), v1.2.2.2)) :: ([] : List Cmd))), ())))))
 else
 none
 else
 if (decide (length x4 + length (v1.2 :: ([] : List Cmd)) <= lim)) = true then
 some (.inl (x1, ((wrap .i64 (x2 + (1 : Int))), (v2.1, ((List.append x4 (v1.2 :: ([] : List Cmd))), ())))))
 else
 none
 else
 none
 else
 if (decide (length x4 + length (v1.2 :: ([] : List Cmd)) <= lim)) = true then
 some (.inl (x1, ((wrap .i64 (x2 + (1 : Int))), (v1.1, ((List.append x4 (v1.2 :: ([] : List Cmd))), ())))))
 else
 none
 else
 none
 else
 some (.inr (x3, (x4, ())))
theorem wp4 : ∀ s, pre4 s = true -> Wp ((fun (x : S4) => raw4 x.1 x.2.1 x.2.2.1 x.2.2.2.1) s) (Step pre4 mu4 Q4 s) := by
 rintro ⟨x1, x2, x3, x4, ⟨⟩⟩ hp
 simp only [pre4, Zb, Za] at hp
 obtain ⟨h1, h2, h3, h4, h5⟩ := hp
 show Wp (raw4 x1 x2 x3 x4) _
 unfold raw4
 refine W_ite (fun h => ?_) fun h => W_some ⟨h3, by show (x4.length : Int) <= max x1 x2; omega, h5⟩
 rw [Za] at h
 have e := w64 (n := x2 + 1) (by omega) (by omega)
 have go : ∀ (c : Cur) (k : Cmd), curB c = true -> CmdOk k = true -> Step pre4 mu4 Q4 (x1, x2, x3, x4, ()) (.inl (x1, (wrap .i64 (x2 + 1), (c, (List.append x4 (k :: ([] : List Cmd)), ()))))) := by
  intro c k hc hk
  rw [e]
  refine ⟨?_, ?_, fun o ho => ?_⟩
  . simp only [pre4, Zb, Za, List.append_eq, Zf, Zg, Zh, List.all_append, List.all_cons, List.all_nil]
    exact ⟨h1, by omega, hc, by omega, h5, hk, trivial⟩
  . simp only [mu4]; omega
  . obtain ⟨o1, o2, o3⟩ := ho
    refine ⟨o1, ?_, o3⟩
    show (o.2.1.length : Int) <= max x1 x2
    have : (o.2.1.length : Int) <= max x1 (x2 + 1) := o2
    omega
 have hl : ∀ k : Cmd, decide (x4.length + (k :: ([] : List Cmd)).length <= lim) = true := fun k => by
  simp only [Za, Zg, Zh, lim]; omega
 refine W_if (show spec_l2DrawRight.pre x3 = true from h3) (W_fact (spec_l2DrawRight_sp h3) fun v hv => W_ite (fun h0 => ?_) fun h0 => W_if (hl _) (W_some (go _ _ hv.1 hv.2.1)))
 rw [Za] at h0
 refine W_if (show spec_l1Once.pre v.1 _ = true from hv.1) (W_fact (spec_l1Once_sp hv.1) fun o ho => W_ite (fun _ => W_if (hl _) (W_some (go _ _ ho.1 ?_))) fun _ => W_if (hl _) (W_some (go _ _ ho.1 hv.2.1)))
 rw [e]
 exact cmd_seq hv.2.1 h0 ⟨by omega, by omega⟩
noncomputable def fn4 : S4 -> O4 := runF (fun (x : S4) => raw4 x.1 x.2.1 x.2.2.1 x.2.2.2.1) mu4
theorem ok4 (x1 x2 : Int) (x3 : Cur) (x4 : List Cmd) (hp : pre4 (x1, (x2, (x3, (x4, ())))) = true) : Rounds pre4 mu4 fn4 (x1, (x2, (x3, (x4, ())))) (raw4 x1 x2 x3 x4) := runF_ok wp4 hp
def pre (c : Cur) (n : Int) : Bool := curB c && (decide (0 <= n) && decide (n <= 50))
abbrev wf (x0 : zt11) (x1 : Int) : Prop := wfA [(.ref zk34 .f), (.val (.int .i64) .f)] (x0, (x1, ()))
noncomputable def raw (x0 : zt11) (x1 : Int) : Option (zt38 × ((List Cmd) × Unit)) :=
 if (spec_l1Below.pre x0 (wrap .i64 (x1 + (1 : Int)))) = true then
 letB (spec_l1Below x0 (wrap .i64 (x1 + (1 : Int)))) fun v1 =>
 if (spec_l6DrawCmds.pre4 (v1.2, ((0 : Int), (v1.1, (([] : List Cmd), ()))))) = true then
 letB (spec_l6DrawCmds.fn4 (v1.2, ((0 : Int), (v1.1, (([] : List Cmd), ()))))) fun v2 =>
 some ((v2.1, ()), v2.2)
 else
 none
 else
 none
theorem wp (x0 : Cur) (x1 : Int) (hp : pre x0 x1 = true) : Wp (raw x0 x1) (fun r => dP (cmdsP x1) (r.1.1, r.2.1)) := by
 unfold raw
 simp only [pre, Zb, Za] at hp
 obtain ⟨h1, h2, h3⟩ := hp
 rw [w64 (n := x1 + 1) (by omega) (by omega)]
 refine W_if (show spec_l1Below.pre x0 _ = true from h1) (W_fact (spec_l1Below_sp h1) fun v hv => ?_)
 have v1 := hv.2.1; have v2 := hv.2.2 (by omega)
 have hq : pre4 (v.2, ((0 : Int), (v.1, (([] : List Cmd), ())))) = true := by
  simp only [pre4, Zb, Za, Zh, List.all_nil]
  exact ⟨by omega, by omega, hv.1, rfl, trivial⟩
 refine W_if hq (W_fact (runF_q wp4 hq : Q4 _ (fn4 _)) fun o ho => W_some ⟨ho.1, ?_, ho.2.2⟩)
 have : (o.2.1.length : Int) <= max v.2 0 := ho.2.1
 show (o.2.1.length : Int) <= x1
 omega
noncomputable def val (x0 : Cur) (x1 : Int) : Cur × List Cmd := ((got (raw x0 x1)).1.1, (got (raw x0 x1)).2.1)
theorem eq (x0 : Cur) (x1 : Int) (_ : wf x0 x1) (hp : pre x0 x1 = true) : raw x0 x1 = some (((val x0 x1).1, ()), ((val x0 x1).2, ())) := (got_eq (wp x0 x1 hp)).1
end spec_l6DrawCmds
noncomputable def spec_l6DrawCmds (x0 : Cur) (x1 : Int) : Cur × List Cmd := spec_l6DrawCmds.val x0 x1
theorem spec_l6DrawCmds_sp {x0 : Cur} {x1 : Int} (hp : spec_l6DrawCmds.pre x0 x1 = true) : dP (cmdsP x1) (spec_l6DrawCmds x0 x1) := (got_eq (spec_l6DrawCmds.wp x0 x1 hp)).2
theorem W_eq {β : Type} {m : Option (Unit × (β × Unit))} {v : β} (h : Wp m fun r => r.2.1 = v) : m = some ((), (v, ())) := by
 obtain ⟨a, rfl, rfl⟩ := h
 rfl
theorem groupS_iff {g : Group} : groupS g = true ↔ g.2.1.length <= 16777216 /\ g.2.2.1.length <= 16777216 /\ g.2.2.2.1.length <= 16777216 := by
 simp only [groupS, Zb, small_iff]
def upG (n : Int) : Int := if 100000 <= n then n else n + 1
namespace spec_l5Up
def pre (n : Int) : Bool := decide (n <= n)
abbrev wf (x0 : Int) : Prop := wfA [(.val (.int .i64) .f)] (x0, ())
noncomputable def raw (x0 : Int) : Option (Unit × (Int × Unit)) :=
 if (decide ((100000 : Int) <= x0)) = true then
 some ((), (x0, ()))
 else
 some ((), ((wrap .i64 (x0 + (1 : Int))), ()))
theorem eq (x0 : Int) (hw : wf x0) (_ : pre x0 = true) : raw x0 = some ((), (upG x0, ())) := by
 have h := in64.1 hw.1
 unfold raw upG
 by_cases h1 : 100000 <= x0
 . rw [if_pos (Zd h1), if_pos h1]
 . rw [if_neg (by simpa using h1), if_neg h1, w64 (by omega) (by omega)]
end spec_l5Up
abbrev spec_l5Up := upG
def without (g : Group) (i : Int) : Group := (g.1, (g.2.1.eraseIdx i.toNat, (g.2.2.1.eraseIdx i.toNat, g.2.2.2)))
theorem erase_parts {α : Type} {xs : List α} {i : Int} (h0 : 0 <= i) (h1 : i < (xs.length : Int)) (h2 : xs.length <= 16777216) :
 List.append (List.append ([] : List α) (dropTake (Int.toNat 0) i.toNat xs)) (dropTake (wrap .i64 (i + 1)).toNat ((xs.length : Int)).toNat xs) = xs.eraseIdx i.toNat := by
 rw [w64 (n := i + 1) (by omega) (by omega)]
 show List.take (i.toNat - 0) (List.drop 0 xs) ++ List.take (((xs.length : Int)).toNat - (i + 1).toNat) (List.drop (i + 1).toNat xs) = _
 rw [List.take_of_length_le (l := List.drop (i + 1).toNat xs) (by rw [Zs]; omega), List.drop_zero, List.eraseIdx_eq_take_drop_succ, show (i + 1).toNat = i.toNat + 1 by omega]; rfl
namespace spec_l5Without
def pre (g : Group) (i : Int) : Bool := groupS g && (decide (0 <= i) && decide (i < (g.2.1.length : Int)))
abbrev wf (x0 : Group) (x1 : Int) : Prop := wfA [(.val zk19 .f), (.val (.int .i64) .f)] (x0, (x1, ()))
noncomputable def raw (x0 : Group) (x1 : Int) : Option (Unit × (Group × Unit)) :=
 if (spec_l5Copy.pre x0) = true then
 if (decide ((0 : Int) <= (0 : Int))) = true then
 if (decide ((0 : Int) <= x1)) = true then
 if (decide (x1 <= ((length x0.2.1 : Nat) : Int))) = true then
 if (decide (length ([] : List Int) + length (dropTake (Int.toNat (0 : Int)) (Int.toNat x1) x0.2.1) <= lim)) = true then
 if (decide ((0 : Int) <= (wrap .i64 (x1 + (1 : Int))))) = true then
 if (decide ((wrap .i64 (x1 + (1 : Int))) <= ((length x0.2.1 : Nat) : Int))) = true then
 if (decide (((length x0.2.1 : Nat) : Int) <= ((length x0.2.1 : Nat) : Int))) = true then
 if (decide (length (List.append ([] : List Int) (dropTake (Int.toNat (0 : Int)) (Int.toNat x1) x0.2.1)) + length (dropTake (Int.toNat (wrap .i64 (x1 + (1 : Int)))) (Int.toNat ((length x0.2.1 : Nat) : Int)) x0.2.1) <= lim)) = true then
 if (decide (x1 < ((length x0.2.2.1 : Nat) : Int))) = true then
 if (decide ((0 : Int) <= (0 : Int))) = true then
 if (decide ((0 : Int) <= x1)) = true then
 if (decide (x1 <= ((length x0.2.2.1 : Nat) : Int))) = true then
 if (decide (length ([] : List Int) + length (dropTake (Int.toNat (0 : Int)) (Int.toNat x1) x0.2.2.1) <= lim)) = true then
 if (decide ((0 : Int) <= (wrap .i64 (x1 + (1 : Int))))) = true then
 if (decide ((wrap .i64 (x1 + (1 : Int))) <= ((length x0.2.2.1 : Nat) : Int))) = true then
 if (decide (((length x0.2.2.1 : Nat) : Int) <= ((length x0.2.2.1 : Nat) : Int))) = true then
 if (decide (length (List.append ([] : List Int) (dropTake (Int.toNat (0 : Int)) (Int.toNat x1) x0.2.2.1)) + length (dropTake (Int.toNat (wrap .i64 (x1 + (1 : Int)))) (Int.toNat ((length x0.2.2.1 : Nat) : Int)) x0.2.2.1) <= lim)) = true then
 letB (spec_l5Copy x0) fun v1 =>
 some ((), ((v1.1, ((List.append (List.append ([] : List Int) (dropTake (Int.toNat (0 : Int)) (Int.toNat x1) x0.2.1)) (dropTake (Int.toNat (wrap .i64 (x1 + (1 : Int)))) (Int.toNat ((length x0.2.1 : Nat) : Int)) x0.2.1)), ((List.append (List.append ([] : List Int) (dropTake (Int.toNat (0 : Int)) (Int.toNat x1) x0.2.2.1)) (dropTake (Int.toNat (wrap .i64 (x1 + (1 : Int)))) (Int.toNat ((length x0.2.2.1 : Nat) : Int)) x0.2.2.1)), v1.2.2.2))), ()))
 else
 none
 else
 none
 else
 none
 else
 none
 else
 none
 else
 none
 else
 none
 else
 none
 else
 letB (spec_l5Copy x0) fun v2 =>
 some ((), ((v2.1, ((List.append (List.append ([] : List Int) (dropTake (Int.toNat (0 : Int)) (Int.toNat x1) x0.2.1)) (dropTake (Int.toNat (wrap .i64 (x1 + (1 : Int)))) (Int.toNat ((length x0.2.1 : Nat) : Int)) x0.2.1)), v2.2.2)), ()))
 else
 none
 else
 none
 else
 none
 else
 none
 else
 none
 else
 none
 else
 none
 else
 none
 else
 none
theorem eq (x0 : Group) (x1 : Int) (_ : wf x0 x1) (hp : pre x0 x1 = true) : raw x0 x1 = some ((), (without x0 x1, ())) := by
 simp only [pre, Zb, Za] at hp
 obtain ⟨hs, h1, h2⟩ := hp
 have hg := groupS_iff.1 hs
 have e := w64 (n := x1 + 1) (by omega) (by omega)
 unfold raw without
 rw [erase_parts h1 h2 hg.1, e]
 refine E_if (show spec_l5Copy.pre x0 = true from hs) ?_
 repeat (first | (with_reducible refine E_let ?_) | (with_reducible refine E_if ?hs ?_; case hs => (first | assumption | (simp only [Za, Bool.not_eq_true', Zv, Bool.not_eq_true, Zf, List.append_eq, Zg, Zh, dropTake, Zr, Zs, List.length_modify, List.length_eraseIdx, lim]; omega) | (simp only [Za]; omega))) | (with_reducible refine E_else ?hs ?_; case hs => (first | assumption | (simp only [Za, Bool.not_eq_true', Zv, Bool.not_eq_true, Zf, List.append_eq, Zg, Zh, dropTake, Zr, Zs, List.length_modify, List.length_eraseIdx, lim]; omega) | (simp only [Za]; omega))))
 by_cases h3 : x1 < (x0.2.2.1.length : Int)
 . rw [<- e, erase_parts h1 h3 hg.2.1, e]
   repeat (first | (with_reducible refine E_let ?_) | (with_reducible refine E_if ?hs ?_; case hs => (first | assumption | (simp only [Za, Bool.not_eq_true', Zv, Bool.not_eq_true, Zf, List.append_eq, Zg, Zh, dropTake, Zr, Zs, List.length_modify, List.length_eraseIdx, lim]; omega) | (simp only [Za]; omega))) | (with_reducible refine E_else ?hs ?_; case hs => (first | assumption | (simp only [Za, Bool.not_eq_true', Zv, Bool.not_eq_true, Zf, List.append_eq, Zg, Zh, dropTake, Zr, Zs, List.length_modify, List.length_eraseIdx, lim]; omega) | (simp only [Za]; omega))))
   rfl
 . rw [List.eraseIdx_of_length_le (l := x0.2.2.1) (by omega)]
   repeat (first | (with_reducible refine E_let ?_) | (with_reducible refine E_if ?hs ?_; case hs => (first | assumption | (simp only [Za, Bool.not_eq_true', Zv, Bool.not_eq_true, Zf, List.append_eq, Zg, Zh, dropTake, Zr, Zs, List.length_modify, List.length_eraseIdx, lim]; omega) | (simp only [Za]; omega))) | (with_reducible refine E_else ?hs ?_; case hs => (first | assumption | (simp only [Za, Bool.not_eq_true', Zv, Bool.not_eq_true, Zf, List.append_eq, Zg, Zh, dropTake, Zr, Zs, List.length_modify, List.length_eraseIdx, lim]; omega) | (simp only [Za]; omega))))
   rfl
end spec_l5Without
abbrev spec_l5Without := without
theorem groupS_without {g : Group} {i : Int} (h : groupS g = true) : groupS (without g i) = true := by
 rw [groupS_iff] at h ⊢
 have h1 : (g.2.1.eraseIdx i.toNat).length <= g.2.1.length := List.length_eraseIdx_le _ _
 have h2 : (g.2.2.1.eraseIdx i.toNat).length <= g.2.2.1.length := List.length_eraseIdx_le _ _
 exact ⟨Nat.le_trans h1 h.1, Nat.le_trans h2 h.2.1, h.2.2⟩
def findAt (who : Int) : List Int -> Int -> Int
 | [], _ => -1
 | m :: r, i => if m = who then i else findAt who r (i + 1)
theorem findAt_lt {who : Int} : (l : List Int) -> (i : Int) -> 0 <= i -> 0 <= findAt who l i -> i <= findAt who l i /\ findAt who l i < i + l.length
 | [], _, _, h => by simp only [findAt] at h; omega
 | m :: r, i, h0, h => by
  simp only [findAt, Zg] at h ⊢
  by_cases e : m = who
  . rw [if_pos e]; omega
  . rw [if_neg e] at h ⊢
    have := findAt_lt r (i + 1) (by omega) h
    omega
theorem findAt_ge {who : Int} : (l : List Int) -> (i : Int) -> 0 <= i -> -1 <= findAt who l i
 | [], _, _ => by simp only [findAt]; omega
 | m :: r, i, h0 => by
  simp only [findAt]
  split
  . omega
  . exact findAt_ge r (i + 1) (by omega)
def atG (g : Group) (who : Int) : Int := findAt who g.2.1 0
namespace spec_l5At
abbrev S2 : Type := (Int × (Int × (Group × Unit)))
abbrev O2 : Type := ((Int × Unit) ⊕ Unit)
def pre2 : S2 -> Bool := fun (_, x2, x3, _) => decide (0 <= x2) && (decide (x2 <= (x3.2.1.length : Int)) && decide (x3.2.1.length <= 16777216))
def fn2 : S2 -> O2 := fun (x1, x2, x3, _) => if 0 <= findAt x1 (x3.2.1.drop x2.toNat) x2 then .inl (findAt x1 (x3.2.1.drop x2.toNat) x2, ()) else .inr ()
def mu2 : S2 -> Nat := fun (_, x2, x3, _) => x3.2.1.length - x2.toNat
noncomputable def raw2 (x1 : Int) (x2 : Int) (x3 : Group) : Option ((Int × (Int × (Group × Unit))) ⊕ ((Int × Unit) ⊕ Unit)) :=
 if (decide (x2 < ((length x3.2.1 : Nat) : Int))) = true then
 if (decide ((0 : Int) <= x2)) = true then
 if (decide (x2 < ((length x3.2.1 : Nat) : Int))) = true then
 if (decide ((List.getD x3.2.1 (Int.toNat x2) (0 : Int)) = x1)) = true then
 some (.inr (.inl (x2, ())))
 else
 some (.inl (x1, ((wrap .i64 (x2 + (1 : Int))), (x3, ()))))
 else
 none
 else
 none
 else
 some (.inr (.inr ()))
abbrev wf (x0 : Group) (x1 : Int) : Prop := wfA [(.val zk19 .f), (.val (.int .i64) .f)] (x0, (x1, ()))
noncomputable def raw (x0 : Group) (x1 : Int) : Option (Unit × (Int × Unit)) :=
 if (spec_l5At.pre2 (x1, ((0 : Int), (x0, ())))) = true then
  letB (spec_l5At.fn2 (x1, ((0 : Int), (x0, ())))) fun v1 =>
  match v1 with
  | .inl y =>
   some ((), y)
  | .inr y =>
   some ((), ((-1 : Int), ()))
 else
  none
theorem ok2 (x1 x2 : Int) (x3 : Group) (hp : pre2 (x1, (x2, (x3, ()))) = true) : Rounds pre2 mu2 fn2 (x1, (x2, (x3, ()))) (raw2 x1 x2 x3) := by
 simp only [pre2, Zb, Za] at hp
 obtain ⟨h1, h2, h3⟩ := hp
 unfold raw2
 by_cases hlt : x2 < (x3.2.1.length : Int)
 . have hn : x2.toNat < x3.2.1.length := by omega
   have e1 := Zn hn
   refine R_if (Zd hlt) (R_if (Zd h1) (R_if (Zd hlt) ?_))
   rw [getD_get hn, w64 (n := x2 + 1) (by omega) (by omega)]
   by_cases he : x3.2.1[x2.toNat] = x1
   . refine R_if (Zd he) ?_
     show _ = (if 0 <= findAt x1 (x3.2.1.drop x2.toNat) x2 then _ else _)
     rw [e1]
     simp only [findAt, he, if_true]
     rw [if_pos h1]
   . refine R_else (by rw [Za]; exact he) ⟨?_, by simp only [mu2]; omega, ?_⟩
     . simp only [pre2, Zb, Za]; omega
     . show (if 0 <= findAt x1 (x3.2.1.drop (x2 + 1).toNat) (x2 + 1) then _ else _) = (if 0 <= findAt x1 (x3.2.1.drop x2.toNat) x2 then _ else _)
       rw [e1, show (x2 + 1).toNat = x2.toNat + 1 by omega]
       simp only [findAt, he, if_false]
 . refine R_else (by rw [Za]; exact hlt) ?_
   show _ = (if 0 <= findAt x1 (x3.2.1.drop x2.toNat) x2 then _ else _)
   rw [Zt (by omega)]
   rfl
def pre (g : Group) (_ : Int) : Bool := groupS g
theorem eq (x0 : Group) (x1 : Int) (_ : wf x0 x1) (hp : pre x0 x1 = true) : raw x0 x1 = some ((), (atG x0 x1, ())) := by
 have hg := groupS_iff.1 (show groupS x0 = true from hp)
 unfold raw
 refine E_if (show pre2 (x1, ((0 : Int), (x0, ()))) = true by simp only [pre2, Zb, Za]; omega) (E_let ?_)
 have hd : fn2 (x1, ((0 : Int), (x0, ()))) = if 0 <= atG x0 x1 then .inl (atG x0 x1, ()) else .inr () := rfl
 rw [hd]
 have := findAt_ge (who := x1) x0.2.1 0 (Int.le_refl _)
 by_cases h : 0 <= atG x0 x1
 . rw [if_pos h]
 . rw [if_neg h, show atG x0 x1 = -1 by unfold atG at h ⊢; omega]
end spec_l5At
abbrev spec_l5At := atG
def tickM (t : Int) : List Int -> List Int -> List Int
 | m :: ms, b :: bs => if b < t - 50 then tickM t ms bs else m :: tickM t ms bs
 | _, _ => []
def tickB (t : Int) : List Int -> List Int
 | [] => []
 | b :: bs => if b < t - 50 then tickB t bs else b :: tickB t bs
def tickG (t : Int) (bs : List Int) : Bool := bs.any fun b => decide (b < t - 50)
def GroupTick (g : Group) (t : Int) : Group := (cond (tickG t g.2.2.1) (upG g.1) g.1, (tickM t g.2.1 g.2.2.1, (tickB t g.2.2.1, g.2.2.2)))
theorem tickM_snoc {t m b : Int} : (ms bs : List Int) -> ms.length = bs.length -> tickM t (ms ++ [m]) (bs ++ [b]) = tickM t ms bs ++ (if b < t - 50 then [] else [m])
 | [], [], _ => by simp only [List.nil_append, tickM]
 | _ :: ms, _ :: bs, h => by
  simp only [List.cons_append, tickM, tickM_snoc ms bs (by simpa using h)]
  split <;> rfl
 | [], _ :: _, h => by cases h
 | _ :: _, [], h => by cases h
theorem tickB_snoc {t b : Int} : (bs : List Int) -> tickB t (bs ++ [b]) = tickB t bs ++ (if b < t - 50 then [] else [b])
 | [] => by simp only [List.nil_append, tickB]
 | _ :: bs => by
  simp only [List.cons_append, tickB, tickB_snoc bs]
  split <;> rfl
theorem take_snoc {α : Type} {xs : List α} {n : Nat} (h : n < xs.length) (d : α) : xs.take (n + 1) = xs.take n ++ [xs.getD n d] := by
 rw [List.take_add_one, getD_get h, Zm h]; rfl
def tickP (g : Group) (t : Int) : Bool := groupS g && (decide (g.2.2.1.length = g.2.1.length) && (decide (0 <= t) && (decide (t <= 100000) && g.2.2.1.all fun b => decide (0 <= b) && decide (b <= 100000))))
theorem tickP_iff {g : Group} {t : Int} : tickP g t = true ↔ groupS g = true /\ g.2.2.1.length = g.2.1.length /\ 0 <= t /\ t <= 100000 /\ ∀ b ∈ g.2.2.1, 0 <= b /\ b <= 100000 := by
 simp only [tickP, Zb, Za, Zu]
end Go.Aw.Pl
