import Derived.Test.YtpcdhadfpeojkaaGreatAxM
namespace Go.Aw.Pl
open Go Go.Aw
set_option linter.unusedVariables false
set_option linter.unusedSimpArgs false
set_option maxHeartbeats 1000000
abbrev Mark := (Int × (Int × Unit))
abbrev Setup := (Int × (Int × Mark))
abbrev Disk := ((List Int) × (Int × Unit))
abbrev Item := (Int × ((List UInt8) × ((List UInt8) × Mark)))
abbrev Row := (Int × (Int × ((List Item) × Unit)))
abbrev Maker := (Int × (Int × (Int × (Int × ((List Mark) × Unit)))))
abbrev Answer := (Int × (Int × ((List UInt8) × ((List UInt8) × Unit))))
abbrev Cmd := (Int × (Int × (Int × (Int × Answer))))
abbrev Entry := (Int × (Cmd × Unit))
abbrev Log := (Int × (Int × ((List Entry) × Unit)))
abbrev Group := (Int × ((List Int) × ((List Int) × ((List Int) × Unit))))
abbrev Rpc := (Int × (Int × (Int × (Int × (Int × (Int × (Int × ((List Entry) × (Bool × ((List UInt8) × Unit))))))))))
abbrev Keep := ((List Row) × ((List Maker) × ((List Group) × (Int × ((List Int) × ((List Answer) × Unit))))))
abbrev Hard := (Int × (Int × (Log × (Keep × Unit))))
abbrev Peer := (Int × (Hard × (Int × ((List Bool) × ((List Int) × ((List Int) × (Int × (Keep × (Disk × ((List Rpc) × Unit))))))))))
abbrev zt4 : Type := (Int × (Int × (Int × (Int × (Int × (Int × (Int × ((List Entry) × (Bool × ((List UInt8) × Unit))))))))))
abbrev zd5 := ((0 : Int), ((0 : Int), ((0 : Int), ((0 : Int), ((0 : Int), ((0 : Int), ((0 : Int), (([] : List Entry), (false, (([] : List UInt8), ()))))))))))
abbrev zt6 : Type := ((List Row) × ((List Maker) × ((List Group) × (Int × ((List Int) × ((List Answer) × Unit))))))
abbrev zd7 := ((0 : Int), ((0 : Int), ((0 : Int), ((0 : Int), (([] : List Mark), ())))))
abbrev zd9 := ((0 : Int), ((0 : Int), (([] : List UInt8), (([] : List UInt8), ()))))
abbrev zd11 := ((0 : Int), (([] : List Int), (([] : List Int), (([] : List Int), ()))))
abbrev zk13 : Ty := (.pair (.int .i64) (.pair (.int .i64) .unit))
abbrev zd15 := ((0 : Int), (((0 : Int), ((0 : Int), ((0 : Int), ((0 : Int), zd9)))), ()))
abbrev zd16 := ((0 : Int), ((0 : Int), (([] : List Item), ())))
abbrev zt17 : Type := (Unit × (Bool × Unit))
abbrev zk19 : Ty := (.pair (.int .i64) (.pair (.sl 0 (.int .i64)) (.pair (.sl 0 (.int .i64)) (.pair (.sl 0 (.int .i64)) .unit))))
abbrev zk20 : Ty := (.pair (.int .i64) (.pair (.int .i64) (.pair .str (.pair .str .unit))))
abbrev zd22 := ((0 : Int), ((0 : Int), ()))
abbrev zd10 := ((0 : Int), (([] : List UInt8), (([] : List UInt8), zd22)))
abbrev zk23 : Ty := (.pair (.int .i64) (.pair (.int .i64) (.pair (.int .i64) (.pair (.int .i64) (.pair (.sl 0 zk13) .unit)))))
abbrev zt24 : Type := (Unit × ((List Row) × ((List Maker) × ((List Group) × ((List Int) × ((List Answer) × (Int × (Unit × ((List Row) × ((List Maker) × ((List Group) × ((List Int) × ((List Answer) × Unit)))))))))))))
abbrev zk25 : Ty := (.pair (.int .i64) (.pair (.int .i64) zk13))
abbrev zd26 := (([] : List Row), (([] : List Maker), (([] : List Group), ((0 : Int), (([] : List Int), (([] : List Answer), ()))))))
abbrev zt27 : Type := (Int × (Int × (Log × (zt6 × Unit))))
abbrev zt2 : Type := (Int × (zt27 × (Int × ((List Bool) × ((List Int) × ((List Int) × (Int × (zt6 × (Disk × ((List zt4) × Unit))))))))))
abbrev zt28 : Type := (Unit × (Int × Unit))
abbrev zk30 : Ty := (.pair (.int .i64) (.pair .str (.pair .str zk13)))
abbrev zk18 : Ty := (.pair (.int .i64) (.pair (.int .i64) (.pair (.sl 0 zk30) .unit)))
abbrev zk1 : Ty := (.pair (.sl 0 zk18) (.pair (.sl 0 zk23) (.pair (.sl 0 zk19) (.pair (.int .i64) (.pair (.sl 0 (.int .i64)) (.pair (.sl 0 zk20) .unit))))))
abbrev zd31 := ((([] : List Int), ((0 : Int), ())), (([] : List zt4), ()))
abbrev zt32 : Type := ((List Int) × Unit)
abbrev zk33 : Ty := (.pair (.sl 0 (.int .u8)) (.pair (.int .i64) .unit))
abbrev zk34 : Ty := (.pair (.int .i64) (.pair (.int .i64) (.pair (.int .i64) (.pair (.int .i64) zk20))))
abbrev zk3 : Ty := (.pair (.int .i64) (.pair zk34 .unit))
abbrev zk8 : Ty := (.pair (.int .i64) (.pair (.int .i64) (.pair (.int .i64) (.pair (.int .i64) (.pair (.int .i64) (.pair (.int .i64) (.pair (.int .i64) (.pair (.sl 0 zk3) (.pair .bool (.pair .str .unit))))))))))
abbrev zk21 : Ty := (.pair (.int .i64) (.pair (.int .i64) (.pair (.sl 0 zk3) .unit)))
abbrev zk29 : Ty := (.pair (.int .i64) (.pair (.int .i64) (.pair zk21 (.pair zk1 .unit))))
abbrev zk12 : Ty := (.pair (.int .i64) (.pair zk29 (.pair (.int .i64) (.pair (.sl 0 .bool) (.pair (.sl 0 (.int .i64)) (.pair (.sl 0 (.int .i64)) (.pair (.int .i64) (.pair zk1 (.pair zk33 (.pair (.sl 0 zk8) .unit))))))))))
abbrev zt35 : Type := (Int × (Setup × (zt2 × Unit)))
abbrev zt36 : Type := (Setup × (zt6 × Unit))
abbrev zd37 := ((0 : Int), ((0 : Int), (([] : List Entry), ())))
abbrev zd14 := ((), (((0 : Int), (((0 : Int), ((0 : Int), (zd37, (zd26, ())))), ((0 : Int), (([] : List Bool), (([] : List Int), (([] : List Int), ((0 : Int), (zd26, zd31)))))))), (false, ())))
theorem w64 {n : Int} (h1 : -9223372036854775808 ≤ n) (h2 : n ≤ 9223372036854775807) : IntKind.wrap .i64 n = n := by
 simp [IntKind.wrap, IntKind.signed, IntKind.bits]; omega
theorem w8 {n : Int} (h1 : 0 ≤ n) (h2 : n ≤ 255) : IntKind.wrap .u8 n = n := by
 simp [IntKind.wrap, IntKind.signed, IntKind.bits]; omega
theorem maxLen_eq : maxLen = 9223372036854775807 := rfl
def small {α : Type} (xs : List α) : Bool := decide (xs.length ≤ 16777216)
theorem small_iff {α : Type} {xs : List α} : small xs = true ↔ xs.length ≤ 16777216 := by simp [small]
theorem getD_get {α : Type} {xs : List α} {i : Nat} {d : α} (h : i < xs.length) : xs.getD i d = xs[i] := by
 rw [List.getD_eq_getElem?_getD, List.getElem?_eq_getElem h]; rfl
def letB {α β : Type} (a : α) (f : α → β) : β := f a
open Classical in
noncomputable def same {α : Type} (a b : α) : Bool := decide (a = b)
theorem same_true {α : Type} {a b : α} : same a b = true ↔ a = b := by simp [same]
theorem same_false {α : Type} {a b : α} : same a b = false ↔ ¬ a = b := by simp [same]
theorem same_self {α : Type} (a : α) : same a a = true := same_true.2 rfl
theorem modify_const {α : Type} (l : List α) (i : Nat) (v : α) : l.modify i (fun _ => v) = l.set i v := by
 apply List.ext_getElem?
 intro j
 rw [List.getElem?_modify, List.getElem?_set]
 by_cases h : i = j
 · subst h
   rcases Nat.lt_or_ge i l.length with hl | hl
   · simp [hl]
   · simp [List.getElem?_eq_none hl, Nat.not_lt.2 hl]
 · simp [h]
section
variable {α : Type}
abbrev EqS (α : Type) := List α × (List α × (Int × Unit))
def eqPre : EqS α → Bool := fun s => decide (s.1.length ≤ maxLen) && decide (0 ≤ s.2.2.1) && decide (s.2.2.1.toNat ≤ s.1.length) && decide (s.2.1.length = s.1.length)
open Classical in
noncomputable def eqFn : EqS α → (Bool × Unit) ⊕ Unit := fun s => if s.1.drop s.2.2.1.toNat = s.2.1.drop s.2.2.1.toNat then .inr () else .inl (false, ())
def eqMu : EqS α → Nat := fun s => s.1.length - s.2.2.1.toNat
theorem eq_next {x1 x2 : List α} {x3 : Int} (hp : eqPre (x1, (x2, (x3, ()))) = true) (hlt : x3 < (x1.length : Int)) (d : α) :
 0 ≤ x3 ∧ x3 < (x2.length : Int) ∧ (x1.getD x3.toNat d = x2.getD x3.toNat d → Rounds eqPre eqMu eqFn (x1, (x2, (x3, ()))) (some (.inl (x1, (x2, (IntKind.wrap .i64 (x3 + 1), ())))))) ∧
  (¬ x1.getD x3.toNat d = x2.getD x3.toNat d → Rounds eqPre eqMu eqFn (x1, (x2, (x3, ()))) (some (.inr (.inl (false, ()))))) := by
 simp only [eqPre, Bool.and_eq_true, decide_eq_true_eq] at hp
 obtain ⟨⟨⟨h1, h2⟩, h3⟩, h4⟩ := hp
 have hM := maxLen_eq
 have hn : x3.toNat < x1.length := by omega
 have hn2 : x3.toNat < x2.length := by omega
 have e1 := List.drop_eq_getElem_cons hn
 have e2 := List.drop_eq_getElem_cons hn2
 rw [getD_get hn, getD_get hn2]
 refine ⟨h2, by omega, fun he => ?_, fun he => ?_⟩
 · simp only [Rounds, w64 (n := x3 + 1) (by omega) (by omega)]
   refine ⟨?_, by simp only [eqMu]; omega, ?_⟩
   · simp only [eqPre, Bool.and_eq_true, decide_eq_true_eq]
     exact ⟨⟨⟨h1, by omega⟩, by omega⟩, h4⟩
   · have hi : x1.drop (x3 + 1).toNat = x2.drop (x3 + 1).toNat ↔ x1.drop x3.toNat = x2.drop x3.toNat := by
      rw [show (x3 + 1).toNat = x3.toNat + 1 by omega, e1, e2, he, List.cons.injEq]; simp
     simp only [eqFn]
     by_cases hc : x1.drop x3.toNat = x2.drop x3.toNat
     · rw [if_pos hc, if_pos (hi.2 hc)]
     · rw [if_neg hc, if_neg (fun h => hc (hi.1 h))]
 · simp only [Rounds, eqFn]
   rw [if_neg]
   rw [e1, e2, List.cons.injEq]
   exact fun h => he h.1
theorem eq_end {x1 x2 : List α} {x3 : Int} (hp : eqPre (x1, (x2, (x3, ()))) = true) (hlt : ¬ x3 < (x1.length : Int)) :
 Rounds eqPre eqMu eqFn (x1, (x2, (x3, ()))) (some (.inr (.inr ()))) := by
 simp only [eqPre, Bool.and_eq_true, decide_eq_true_eq] at hp
 obtain ⟨⟨⟨h1, h2⟩, h3⟩, h4⟩ := hp
 simp only [Rounds, eqFn]
 rw [List.drop_eq_nil_of_le (by omega), List.drop_eq_nil_of_le (by omega), if_pos rfl]
theorem eq_start {x0 x1 : List α} (h : x0.length ≤ maxLen) (hl : (x0.length : Int) = (x1.length : Int)) : eqPre (x0, (x1, ((0 : Int), ()))) = true := by
 simp only [eqPre, Bool.and_eq_true, decide_eq_true_eq]
 exact ⟨⟨⟨h, by omega⟩, by omega⟩, by omega⟩
theorem eqFn_eq {x0 x1 : List α} (h : x0 = x1) : eqFn (x0, (x1, ((0 : Int), ()))) = .inr () := by
 unfold eqFn
 exact if_pos h
theorem eqFn_ne {x0 x1 : List α} (h : ¬ x0 = x1) : eqFn (x0, (x1, ((0 : Int), ()))) = .inl (false, ()) := by
 unfold eqFn
 exact if_neg h
end
def impl_within (n lo hi : Int) : Bool := decide (lo ≤ n) && decide (n ≤ hi)
namespace impl_within
abbrev wf (x0 : Int) (x1 : Int) (x2 : Int) : Prop := wfA [(.val (.int .i64) .f), (.val (.int .i64) .f), (.val (.int .i64) .f)] (x0, (x1, (x2, ())))
noncomputable def raw (x0 : Int) (x1 : Int) (x2 : Int) : Option zt17 :=
 if (decide (x1 ≤ x0)) = true then
 some ((), ((decide (x0 ≤ x2)), ()))
 else
 some ((), (false, ()))
theorem eq (x0 x1 x2 : Int) (_ : wf x0 x1 x2) : raw x0 x1 x2 = some ((), (impl_within x0 x1 x2, ())) := by
 unfold raw impl_within
 by_cases h : x1 ≤ x0 <;> simp [h]
end impl_within
abbrev spec_l1In := impl_within
namespace spec_l1In
abbrev wf (x0 : Int) (x1 : Int) (x2 : Int) : Prop := wfA [(.val (.int .i64) .f), (.val (.int .i64) .f), (.val (.int .i64) .f)] (x0, (x1, (x2, ())))
noncomputable def raw (x0 : Int) (x1 : Int) (x2 : Int) : Option zt17 :=
 if (decide (x1 ≤ x0)) = true then
 some ((), ((decide (x0 ≤ x2)), ()))
 else
 some ((), (false, ()))
theorem eq (x0 x1 x2 : Int) (_ : wf x0 x1 x2) : raw x0 x1 x2 = some ((), (spec_l1In x0 x1 x2, ())) := by
 unfold raw spec_l1In impl_within
 by_cases h : x1 ≤ x0 <;> simp [h]
end spec_l1In
def chOk (c : UInt8) : Bool := (decide (97 ≤ c.toNat) && decide (c.toNat ≤ 122)) || (decide (48 ≤ c.toNat) && decide (c.toNat ≤ 57)) || decide (c.toNat = 32)
def wordsOk (s : List UInt8) : Bool := s.all chOk && decide (s.length ≤ 30)
abbrev TxS := List UInt8 × (Int × Unit)
def txPre : TxS → Bool := fun s => decide (s.1.length ≤ maxLen) && decide (0 ≤ s.2.1) && decide (s.2.1.toNat ≤ s.1.length)
def txFn : TxS → (Bool × Unit) ⊕ (List UInt8 × Unit) := fun s => if (s.1.drop s.2.1.toNat).all chOk = true then .inr (s.1, ()) else .inl (false, ())
def txMu : TxS → Nat := fun s => s.1.length - s.2.1.toNat
theorem tx_next {x1 : List UInt8} {x2 : Int} (hp : txPre (x1, (x2, ())) = true) (hlt : x2 < (x1.length : Int)) :
 0 ≤ x2 ∧ (chOk (x1.getD x2.toNat 0) = true → Rounds txPre txMu txFn (x1, (x2, ())) (some (.inl (x1, (IntKind.wrap .i64 (x2 + 1), ()))))) ∧
  (chOk (x1.getD x2.toNat 0) = false → Rounds txPre txMu txFn (x1, (x2, ())) (some (.inr (.inl (false, ()))))) := by
 simp only [txPre, Bool.and_eq_true, decide_eq_true_eq] at hp
 obtain ⟨⟨h1, h2⟩, h3⟩ := hp
 have hM := maxLen_eq
 have hn : x2.toNat < x1.length := by omega
 have e1 := List.drop_eq_getElem_cons hn
 rw [getD_get hn]
 refine ⟨h2, fun he => ?_, fun he => ?_⟩
 · simp only [Rounds, w64 (n := x2 + 1) (by omega) (by omega)]
   refine ⟨?_, by simp only [txMu]; omega, ?_⟩
   · simp only [txPre, Bool.and_eq_true, decide_eq_true_eq]
     exact ⟨⟨h1, by omega⟩, by omega⟩
   · simp only [txFn, show (x2 + 1).toNat = x2.toNat + 1 by omega, e1, List.all_cons, he, Bool.true_and]
 · simp only [Rounds, txFn, e1, List.all_cons, he, Bool.false_and, Bool.false_eq_true, if_false]
theorem tx_end {x1 : List UInt8} {x2 : Int} (hp : txPre (x1, (x2, ())) = true) (hlt : ¬ x2 < (x1.length : Int)) :
 Rounds txPre txMu txFn (x1, (x2, ())) (some (.inr (.inr (x1, ())))) := by
 simp only [txPre, Bool.and_eq_true, decide_eq_true_eq] at hp
 obtain ⟨⟨h1, h2⟩, h3⟩ := hp
 simp only [Rounds, txFn]
 rw [List.drop_eq_nil_of_le (by omega)]
 rfl
theorem tx_eq {x0 : List UInt8} (h : x0.length ≤ maxLen) : txPre (x0, ((0 : Int), ())) = true := by simp [txPre, h]
abbrev impl_wordsOk := wordsOk
abbrev spec_l2Text := wordsOk
namespace impl_wordsOk
def pre2 := txPre
def fn2 := txFn
def mu2 := txMu
noncomputable def raw2 (x1 : (List UInt8)) (x2 : Int) : Option (((List UInt8) × (Int × Unit)) ⊕ ((Bool × Unit) ⊕ ((List UInt8) × Unit))) :=
 if (decide (x2 < ((List.length x1 : Nat) : Int))) = true then
 if (decide ((0 : Int) ≤ x2)) = true then
 if (decide (x2 < ((List.length x1 : Nat) : Int))) = true then
 if (decide (((UInt8.toNat (List.getD x1 (Int.toNat x2) 0) : Nat) : Int) < (97 : Int))) = true then
 if (decide (((UInt8.toNat (List.getD x1 (Int.toNat x2) 0) : Nat) : Int) < (48 : Int))) = true then
 if (!(decide (((UInt8.toNat (List.getD x1 (Int.toNat x2) 0) : Nat) : Int) = (32 : Int)))) = true then
 some (.inr (.inl (false, ())))
 else
 some (.inl (x1, ((IntKind.wrap .i64 (x2 + (1 : Int))), ())))
 else
 if (decide ((57 : Int) < ((UInt8.toNat (List.getD x1 (Int.toNat x2) 0) : Nat) : Int))) = true then
 if (!(decide (((UInt8.toNat (List.getD x1 (Int.toNat x2) 0) : Nat) : Int) = (32 : Int)))) = true then
 some (.inr (.inl (false, ())))
 else
 some (.inl (x1, ((IntKind.wrap .i64 (x2 + (1 : Int))), ())))
 else
 some (.inl (x1, ((IntKind.wrap .i64 (x2 + (1 : Int))), ())))
 else
 if (decide ((122 : Int) < ((UInt8.toNat (List.getD x1 (Int.toNat x2) 0) : Nat) : Int))) = true then
 if (decide (((UInt8.toNat (List.getD x1 (Int.toNat x2) 0) : Nat) : Int) < (48 : Int))) = true then
 if (!(decide (((UInt8.toNat (List.getD x1 (Int.toNat x2) 0) : Nat) : Int) = (32 : Int)))) = true then
 some (.inr (.inl (false, ())))
 else
 some (.inl (x1, ((IntKind.wrap .i64 (x2 + (1 : Int))), ())))
 else
 if (decide ((57 : Int) < ((UInt8.toNat (List.getD x1 (Int.toNat x2) 0) : Nat) : Int))) = true then
 if (!(decide (((UInt8.toNat (List.getD x1 (Int.toNat x2) 0) : Nat) : Int) = (32 : Int)))) = true then
 some (.inr (.inl (false, ())))
 else
 some (.inl (x1, ((IntKind.wrap .i64 (x2 + (1 : Int))), ())))
 else
 some (.inl (x1, ((IntKind.wrap .i64 (x2 + (1 : Int))), ())))
 else
 some (.inl (x1, ((IntKind.wrap .i64 (x2 + (1 : Int))), ())))
 else
 none
 else
 none
 else
 some (.inr (.inr (x1, ())))
abbrev wf (x0 : (List UInt8)) : Prop := wfA [(.val .str .f)] (x0, ())
noncomputable def raw (x0 : (List UInt8)) : Option zt17 :=
 if (impl_wordsOk.pre2 (x0, ((0 : Int), ()))) = true then
  match (impl_wordsOk.fn2 (x0, ((0 : Int), ()))) with
  | .inl y =>
   some ((), y)
  | .inr y =>
   some ((), ((decide (((List.length y.1 : Nat) : Int) ≤ (30 : Int))), ()))
 else
  none
theorem ok2 (x1 : List UInt8) (x2 : Int) (hp : pre2 (x1, (x2, ())) = true) : Rounds pre2 mu2 fn2 (x1, (x2, ())) (raw2 x1 x2) := by
 unfold raw2
 by_cases hlt : x2 < (x1.length : Int)
 · obtain ⟨h1, h2, h3⟩ := tx_next hp hlt
   simp only [hlt, h1, decide_true, if_true, decide_eq_true_eq, Bool.not_eq_true', decide_eq_false_iff_not]
   generalize hc : (x1.getD x2.toNat 0) = c at *
   have hk : chOk c = true ∨ chOk c = false := by cases chOk c <;> simp
   unfold chOk at hk h2 h3
   simp only [Bool.or_eq_true, Bool.and_eq_true, decide_eq_true_eq, Bool.or_eq_false_iff, Bool.and_eq_false_iff, decide_eq_false_iff_not] at hk h2 h3
   repeat' split
   all_goals first | (exact h2 (by omega)) | (exact h3 (by omega))
 · simp only [hlt, decide_false, Bool.false_eq_true, if_false]
   exact tx_end hp hlt
theorem eq (x0 : List UInt8) (hw : wf x0) : raw x0 = some ((), (impl_wordsOk x0, ())) := by
 have h1 : x0.length ≤ maxLen := hw.1
 unfold raw impl_wordsOk wordsOk
 rw [if_pos (show pre2 _ = true from tx_eq h1)]
 simp only [fn2, txFn, Int.toNat_zero, List.drop_zero]
 by_cases h : x0.all chOk = true
 · rw [if_pos h, h]
   by_cases hl : x0.length ≤ 30
   · simp [hl]; omega
   · simp [hl]; omega
 · rw [if_neg h]; simp [h]
end impl_wordsOk
namespace spec_l2Text
def pre2 := txPre
def fn2 := txFn
def mu2 := txMu
noncomputable def raw2 (x1 : (List UInt8)) (x2 : Int) : Option (((List UInt8) × (Int × Unit)) ⊕ ((Bool × Unit) ⊕ ((List UInt8) × Unit))) :=
 if (decide (x2 < ((List.length x1 : Nat) : Int))) = true then
 if (decide ((0 : Int) ≤ x2)) = true then
 if (decide (x2 < ((List.length x1 : Nat) : Int))) = true then
 if (decide ((97 : Int) ≤ ((UInt8.toNat (List.getD x1 (Int.toNat x2) 0) : Nat) : Int))) = true then
 if (decide (((UInt8.toNat (List.getD x1 (Int.toNat x2) 0) : Nat) : Int) ≤ (122 : Int))) = true then
 if (!true) = true then
 some (.inr (.inl (false, ())))
 else
 some (.inl (x1, ((IntKind.wrap .i64 (x2 + (1 : Int))), ())))
 else
 if (decide ((48 : Int) ≤ ((UInt8.toNat (List.getD x1 (Int.toNat x2) 0) : Nat) : Int))) = true then
 if (decide (((UInt8.toNat (List.getD x1 (Int.toNat x2) 0) : Nat) : Int) ≤ (57 : Int))) = true then
 if (!true) = true then
 some (.inr (.inl (false, ())))
 else
 some (.inl (x1, ((IntKind.wrap .i64 (x2 + (1 : Int))), ())))
 else
 if (!(decide (((UInt8.toNat (List.getD x1 (Int.toNat x2) 0) : Nat) : Int) = (32 : Int)))) = true then
 some (.inr (.inl (false, ())))
 else
 some (.inl (x1, ((IntKind.wrap .i64 (x2 + (1 : Int))), ())))
 else
 if (!(decide (((UInt8.toNat (List.getD x1 (Int.toNat x2) 0) : Nat) : Int) = (32 : Int)))) = true then
 some (.inr (.inl (false, ())))
 else
 some (.inl (x1, ((IntKind.wrap .i64 (x2 + (1 : Int))), ())))
 else
 if (decide ((48 : Int) ≤ ((UInt8.toNat (List.getD x1 (Int.toNat x2) 0) : Nat) : Int))) = true then
 if (decide (((UInt8.toNat (List.getD x1 (Int.toNat x2) 0) : Nat) : Int) ≤ (57 : Int))) = true then
 if (!true) = true then
 some (.inr (.inl (false, ())))
 else
 some (.inl (x1, ((IntKind.wrap .i64 (x2 + (1 : Int))), ())))
 else
 if (!(decide (((UInt8.toNat (List.getD x1 (Int.toNat x2) 0) : Nat) : Int) = (32 : Int)))) = true then
 some (.inr (.inl (false, ())))
 else
 some (.inl (x1, ((IntKind.wrap .i64 (x2 + (1 : Int))), ())))
 else
 if (!(decide (((UInt8.toNat (List.getD x1 (Int.toNat x2) 0) : Nat) : Int) = (32 : Int)))) = true then
 some (.inr (.inl (false, ())))
 else
 some (.inl (x1, ((IntKind.wrap .i64 (x2 + (1 : Int))), ())))
 else
 none
 else
 none
 else
 some (.inr (.inr (x1, ())))
abbrev wf (x0 : (List UInt8)) : Prop := wfA [(.val .str .f)] (x0, ())
noncomputable def raw (x0 : (List UInt8)) : Option zt17 :=
 if (spec_l2Text.pre2 (x0, ((0 : Int), ()))) = true then
  match (spec_l2Text.fn2 (x0, ((0 : Int), ()))) with
  | .inl y =>
   some ((), y)
  | .inr y =>
   some ((), ((decide (((List.length y.1 : Nat) : Int) ≤ (30 : Int))), ()))
 else
  none
theorem ok2 (x1 : List UInt8) (x2 : Int) (hp : pre2 (x1, (x2, ())) = true) : Rounds pre2 mu2 fn2 (x1, (x2, ())) (raw2 x1 x2) := by
 unfold raw2
 by_cases hlt : x2 < (x1.length : Int)
 · obtain ⟨h1, h2, h3⟩ := tx_next hp hlt
   simp only [hlt, h1, decide_true, if_true, decide_eq_true_eq, Bool.not_eq_true', decide_eq_false_iff_not, Bool.not_true, Bool.false_eq_true, if_false]
   generalize hc : (x1.getD x2.toNat 0) = c at *
   have hk : chOk c = true ∨ chOk c = false := by cases chOk c <;> simp
   unfold chOk at hk h2 h3
   simp only [Bool.or_eq_true, Bool.and_eq_true, decide_eq_true_eq, Bool.or_eq_false_iff, Bool.and_eq_false_iff, decide_eq_false_iff_not] at hk h2 h3
   repeat' split
   all_goals first | (exact h2 (by omega)) | (exact h3 (by omega))
 · simp only [hlt, decide_false, Bool.false_eq_true, if_false]
   exact tx_end hp hlt
theorem eq (x0 : List UInt8) (hw : wf x0) : raw x0 = some ((), (spec_l2Text x0, ())) := by
 have h1 : x0.length ≤ maxLen := hw.1
 unfold raw spec_l2Text wordsOk
 rw [if_pos (show pre2 _ = true from tx_eq h1)]
 simp only [fn2, txFn, Int.toNat_zero, List.drop_zero]
 by_cases h : x0.all chOk = true
 · rw [if_pos h, h]
   by_cases hl : x0.length ≤ 30
   · simp [hl]; omega
   · simp [hl]; omega
 · rw [if_neg h]; simp [h]
end spec_l2Text
def CmdOk (c : Cmd) : Bool :=
 if c.1 = -1 then decide (c.1 = -1) && (decide (c.2.1 = 0) && (decide (c.2.2.1 = 0) && (decide (c.2.2.2.1 = 0) && (decide (c.2.2.2.2.1 = 0) && (decide (c.2.2.2.2.2.1 = 0) && (c.2.2.2.2.2.2.1 == [] && c.2.2.2.2.2.2.2.1 == []))))))
 else impl_within c.1 0 3 && (impl_within c.2.1 1 100000 && (impl_within c.2.2.1 1 10 && (impl_within c.2.2.2.1 0 100000 && (impl_within c.2.2.2.2.1 0 100000 && (impl_within c.2.2.2.2.2.1 0 100000 && (wordsOk c.2.2.2.2.2.2.1 && wordsOk c.2.2.2.2.2.2.2.1))))))
abbrev impl_CmdOk := CmdOk
abbrev spec_CmdOk := CmdOk
namespace impl_CmdOk
abbrev wf (x0 : Cmd) : Prop := wfA [(.val zk34 .f)] (x0, ())
noncomputable def raw (x0 : Cmd) : Option zt17 :=
 if (decide (x0.1 = (-1 : Int))) = true then
 some ((), (((decide (x0.1 = (-1 : Int))) && ((decide (x0.2.1 = (0 : Int))) && ((decide (x0.2.2.1 = (0 : Int))) && ((decide (x0.2.2.2.1 = (0 : Int))) && ((decide (x0.2.2.2.2.1 = (0 : Int))) && ((decide (x0.2.2.2.2.2.1 = (0 : Int))) && ((x0.2.2.2.2.2.2.1 == ([] : List UInt8)) && (x0.2.2.2.2.2.2.2.1 == ([] : List UInt8))))))))), ()))
 else
 if (impl_within x0.1 (0 : Int) (3 : Int)) = true then
 if (impl_within x0.2.1 (1 : Int) (100000 : Int)) = true then
 if (impl_within x0.2.2.1 (1 : Int) (10 : Int)) = true then
 if (impl_within x0.2.2.2.1 (0 : Int) (100000 : Int)) = true then
 if (impl_within x0.2.2.2.2.1 (0 : Int) (100000 : Int)) = true then
 if (impl_within x0.2.2.2.2.2.1 (0 : Int) (100000 : Int)) = true then
 if (wordsOk x0.2.2.2.2.2.2.1) = true then
 some ((), ((wordsOk x0.2.2.2.2.2.2.2.1), ()))
 else
 some ((), (false, ()))
 else
 some ((), (false, ()))
 else
 some ((), (false, ()))
 else
 some ((), (false, ()))
 else
 some ((), (false, ()))
 else
 some ((), (false, ()))
 else
 some ((), (false, ()))
theorem eq (x0 : Cmd) (_ : wf x0) : raw x0 = some ((), (impl_CmdOk x0, ())) := by
 unfold raw impl_CmdOk CmdOk
 simp only [decide_eq_true_eq]
 split
 · rfl
 · cases impl_within x0.1 0 3 <;> simp only [Bool.false_eq_true, if_false, if_true, Bool.false_and, Bool.true_and]
   cases impl_within x0.2.1 1 100000 <;> simp only [Bool.false_eq_true, if_false, if_true, Bool.false_and, Bool.true_and]
   cases impl_within x0.2.2.1 1 10 <;> simp only [Bool.false_eq_true, if_false, if_true, Bool.false_and, Bool.true_and]
   cases impl_within x0.2.2.2.1 0 100000 <;> simp only [Bool.false_eq_true, if_false, if_true, Bool.false_and, Bool.true_and]
   cases impl_within x0.2.2.2.2.1 0 100000 <;> simp only [Bool.false_eq_true, if_false, if_true, Bool.false_and, Bool.true_and]
   cases impl_within x0.2.2.2.2.2.1 0 100000 <;> simp only [Bool.false_eq_true, if_false, if_true, Bool.false_and, Bool.true_and]
   cases wordsOk x0.2.2.2.2.2.2.1 <;> simp only [Bool.false_eq_true, if_false, if_true, Bool.false_and, Bool.true_and]
end impl_CmdOk
namespace spec_CmdOk
abbrev wf (x0 : Cmd) : Prop := wfA [(.val zk34 .f)] (x0, ())
noncomputable def raw (x0 : Cmd) : Option zt17 :=
 if (decide (x0.1 = (-1 : Int))) = true then
 some ((), (((decide (x0.1 = (-1 : Int))) && ((decide (x0.2.1 = (0 : Int))) && ((decide (x0.2.2.1 = (0 : Int))) && ((decide (x0.2.2.2.1 = (0 : Int))) && ((decide (x0.2.2.2.2.1 = (0 : Int))) && ((decide (x0.2.2.2.2.2.1 = (0 : Int))) && ((x0.2.2.2.2.2.2.1 == ([] : List UInt8)) && (x0.2.2.2.2.2.2.2.1 == ([] : List UInt8))))))))), ()))
 else
 if (impl_within x0.1 (0 : Int) (3 : Int)) = true then
 if (impl_within x0.2.1 (1 : Int) (100000 : Int)) = true then
 if (impl_within x0.2.2.1 (1 : Int) (10 : Int)) = true then
 if (impl_within x0.2.2.2.1 (0 : Int) (100000 : Int)) = true then
 if (impl_within x0.2.2.2.2.1 (0 : Int) (100000 : Int)) = true then
 if (impl_within x0.2.2.2.2.2.1 (0 : Int) (100000 : Int)) = true then
 if (wordsOk x0.2.2.2.2.2.2.1) = true then
 some ((), ((wordsOk x0.2.2.2.2.2.2.2.1), ()))
 else
 some ((), (false, ()))
 else
 some ((), (false, ()))
 else
 some ((), (false, ()))
 else
 some ((), (false, ()))
 else
 some ((), (false, ()))
 else
 some ((), (false, ()))
 else
 some ((), (false, ()))
theorem eq (x0 : Cmd) (_ : wf x0) : raw x0 = some ((), (spec_CmdOk x0, ())) := by
 unfold raw spec_CmdOk CmdOk
 simp only [decide_eq_true_eq]
 split
 · rfl
 · cases impl_within x0.1 0 3 <;> simp only [Bool.false_eq_true, if_false, if_true, Bool.false_and, Bool.true_and]
   cases impl_within x0.2.1 1 100000 <;> simp only [Bool.false_eq_true, if_false, if_true, Bool.false_and, Bool.true_and]
   cases impl_within x0.2.2.1 1 10 <;> simp only [Bool.false_eq_true, if_false, if_true, Bool.false_and, Bool.true_and]
   cases impl_within x0.2.2.2.1 0 100000 <;> simp only [Bool.false_eq_true, if_false, if_true, Bool.false_and, Bool.true_and]
   cases impl_within x0.2.2.2.2.1 0 100000 <;> simp only [Bool.false_eq_true, if_false, if_true, Bool.false_and, Bool.true_and]
   cases impl_within x0.2.2.2.2.2.1 0 100000 <;> simp only [Bool.false_eq_true, if_false, if_true, Bool.false_and, Bool.true_and]
   cases wordsOk x0.2.2.2.2.2.2.1 <;> simp only [Bool.false_eq_true, if_false, if_true, Bool.false_and, Bool.true_and]
end spec_CmdOk
abbrev E0 : Entry := zd15
def LastOf (l : Log) : Int × Int := if l.2.2.1.length = 0 then (l.1, l.2.1) else (IntKind.wrap .i64 (l.1 + (l.2.2.1.length : Int)), (l.2.2.1.getD (l.2.2.1.length - 1) E0).1)
abbrev impl_LastOf := LastOf
abbrev spec_LastOf := LastOf
namespace impl_LastOf
abbrev wf (x0 : Log) : Prop := wfA [(.val zk21 .f)] (x0, ())
noncomputable def raw (x0 : Log) : Option (Unit × Mark) :=
 if (decide ((0 : Int) < ((List.length x0.2.2.1 : Nat) : Int))) = true then
 if (decide ((0 : Int) ≤ (IntKind.wrap .i64 (((List.length x0.2.2.1 : Nat) : Int) - (1 : Int))))) = true then
 if (decide ((IntKind.wrap .i64 (((List.length x0.2.2.1 : Nat) : Int) - (1 : Int))) < ((List.length x0.2.2.1 : Nat) : Int))) = true then
 some ((), ((IntKind.wrap .i64 (x0.1 + ((List.length x0.2.2.1 : Nat) : Int))), ((List.getD x0.2.2.1 (Int.toNat (IntKind.wrap .i64 (((List.length x0.2.2.1 : Nat) : Int) - (1 : Int)))) zd15).1, ())))
 else
 none
 else
 none
 else
 some ((), (x0.1, (x0.2.1, ())))
theorem eq (x0 : Log) (hw : wf x0) : raw x0 = some ((), ((impl_LastOf x0).1, ((impl_LastOf x0).2, ()))) := by
 have h1 : x0.2.2.1.length ≤ maxLen := hw.1.2.2.1.1
 have hM := maxLen_eq
 unfold raw impl_LastOf LastOf
 by_cases h : x0.2.2.1.length = 0
 · simp [h]
 · rw [w64 (n := (x0.2.2.1.length : Int) - 1) (by omega) (by omega), if_pos (by rw [decide_eq_true_eq]; omega), if_pos (by rw [decide_eq_true_eq]; omega), if_pos (by rw [decide_eq_true_eq]; omega), if_neg h]
   rw [show ((x0.2.2.1.length : Int) - 1).toNat = x0.2.2.1.length - 1 by omega]
end impl_LastOf
namespace spec_LastOf
abbrev wf (x0 : Log) : Prop := wfA [(.val zk21 .f)] (x0, ())
noncomputable def raw (x0 : Log) : Option (Unit × Mark) :=
 if (decide (((List.length x0.2.2.1 : Nat) : Int) = (0 : Int))) = true then
 some ((), (x0.1, (x0.2.1, ())))
 else
 if (decide ((0 : Int) ≤ (IntKind.wrap .i64 (((List.length x0.2.2.1 : Nat) : Int) - (1 : Int))))) = true then
 if (decide ((IntKind.wrap .i64 (((List.length x0.2.2.1 : Nat) : Int) - (1 : Int))) < ((List.length x0.2.2.1 : Nat) : Int))) = true then
 some ((), ((IntKind.wrap .i64 (x0.1 + ((List.length x0.2.2.1 : Nat) : Int))), ((List.getD x0.2.2.1 (Int.toNat (IntKind.wrap .i64 (((List.length x0.2.2.1 : Nat) : Int) - (1 : Int)))) zd15).1, ())))
 else
 none
 else
 none
theorem eq (x0 : Log) (hw : wf x0) : raw x0 = some ((), ((spec_LastOf x0).1, ((spec_LastOf x0).2, ()))) := by
 have h1 : x0.2.2.1.length ≤ maxLen := hw.1.2.2.1.1
 have hM := maxLen_eq
 unfold raw spec_LastOf LastOf
 by_cases h : x0.2.2.1.length = 0
 · simp [h]
 · rw [w64 (n := (x0.2.2.1.length : Int) - 1) (by omega) (by omega), if_neg (by rw [decide_eq_true_eq]; omega), if_pos (by rw [decide_eq_true_eq]; omega), if_pos (by rw [decide_eq_true_eq]; omega), if_neg h]
   rw [show ((x0.2.2.1.length : Int) - 1).toNat = x0.2.2.1.length - 1 by omega]
end spec_LastOf
def listOk : List Entry → Int → Bool
 | [], _ => true
 | e :: r, t => impl_within e.1 t 300 && (CmdOk e.2.1 && listOk r e.1)
def LogOk (l : Log) : Bool := impl_within l.1 0 300 && (impl_within l.2.1 0 300 && (decide ((l.2.2.1.length : Int) ≤ 300 - l.1) && listOk l.2.2.1 l.2.1))
abbrev impl_LogOk := LogOk
abbrev spec_LogOk := LogOk
theorem lg_next {xs : List Entry} {t : Int} {i : Int} (h0 : 0 ≤ i) (hlt : i < (xs.length : Int)) (hl : xs.length ≤ maxLen) :
 listOk (xs.drop i.toNat) t = (impl_within (xs.getD i.toNat E0).1 t 300 && (CmdOk (xs.getD i.toNat E0).2.1 && listOk (xs.drop (IntKind.wrap .i64 (i + 1)).toNat) (xs.getD i.toNat E0).1)) ∧ 0 ≤ IntKind.wrap .i64 (i + 1) ∧ (IntKind.wrap .i64 (i + 1)).toNat ≤ xs.length ∧
  xs.length - (IntKind.wrap .i64 (i + 1)).toNat < xs.length - i.toNat := by
 have hM := maxLen_eq
 have hn : i.toNat < xs.length := by omega
 rw [w64 (by omega) (by omega), getD_get hn, List.drop_eq_getElem_cons hn, show (i + 1).toNat = i.toNat + 1 by omega]
 refine ⟨rfl, by omega, by omega, by omega⟩
namespace impl_LogOk
abbrev S := Int × (List Entry × (Int × (Int × Unit)))
def pre5 : S → Bool := fun s => decide (s.2.1.length ≤ maxLen) && (decide (s.2.2.1 = (s.2.1.length : Int)) && (decide (0 ≤ s.2.2.2.1) && decide (s.2.2.2.1.toNat ≤ s.2.1.length)))
def fn5 : S → (Bool × Unit) ⊕ Unit := fun s => if listOk (s.2.1.drop s.2.2.2.1.toNat) s.1 = true then .inr () else .inl (false, ())
def mu5 : S → Nat := fun s => s.2.1.length - s.2.2.2.1.toNat
noncomputable def raw5 (x1 : Int) (x2 : (List Entry)) (x3 : Int) (x4 : Int) : Option ((Int × ((List Entry) × Mark)) ⊕ ((Bool × Unit) ⊕ Unit)) :=
 if (decide (x4 < x3)) = true then
 if (decide ((0 : Int) ≤ x4)) = true then
 if (decide (x4 < ((List.length x2 : Nat) : Int))) = true then
 if (!(impl_within (List.getD x2 (Int.toNat x4) zd15).1 x1 (300 : Int))) = true then
 some (.inr (.inl (false, ())))
 else
 if (!(CmdOk (List.getD x2 (Int.toNat x4) zd15).2.1)) = true then
 some (.inr (.inl (false, ())))
 else
 some (.inl ((List.getD x2 (Int.toNat x4) zd15).1, (x2, (x3, ((IntKind.wrap .i64 (x4 + (1 : Int))), ())))))
 else
 none
 else
 none
 else
 some (.inr (.inr ()))
abbrev wf (x0 : Log) : Prop := wfA [(.val zk21 .f)] (x0, ())
noncomputable def raw (x0 : Log) : Option zt17 :=
 if (!(impl_within x0.1 (0 : Int) (300 : Int))) = true then
  some ((), (false, ()))
 else
  if (!(impl_within x0.2.1 (0 : Int) (300 : Int))) = true then
   some ((), (false, ()))
  else
   if (decide ((IntKind.wrap .i64 ((300 : Int) - x0.1)) < ((List.length x0.2.2.1 : Nat) : Int))) = true then
    some ((), (false, ()))
   else
    if (impl_LogOk.pre5 (x0.2.1, (x0.2.2.1, (((List.length x0.2.2.1 : Nat) : Int), ((0 : Int), ()))))) = true then
     match (impl_LogOk.fn5 (x0.2.1, (x0.2.2.1, (((List.length x0.2.2.1 : Nat) : Int), ((0 : Int), ()))))) with
     | .inl y =>
      some ((), y)
     | .inr y =>
      some ((), (true, ()))
    else
     none
theorem ok5 (x1 : Int) (x2 : List Entry) (x3 x4 : Int) (hp : pre5 (x1, (x2, (x3, (x4, ())))) = true) : Rounds pre5 mu5 fn5 (x1, (x2, (x3, (x4, ())))) (raw5 x1 x2 x3 x4) := by
 simp only [pre5, Bool.and_eq_true, decide_eq_true_eq] at hp
 obtain ⟨h1, rfl, h3, h4⟩ := hp
 unfold raw5
 by_cases hlt : x4 < (x2.length : Int)
 · obtain ⟨g1, g2, g3, g4⟩ := lg_next (t := x1) h3 hlt h1
   simp only [hlt, h3, decide_true, if_true]
   cases hw : impl_within (x2.getD x4.toNat E0).1 x1 300 with
   | false => simp only [Rounds, fn5, g1, hw, Bool.false_and, Bool.not_false, Bool.false_eq_true, if_true, if_false]
   | true =>
    cases hc : CmdOk (x2.getD x4.toNat E0).2.1 with
    | false => simp only [Rounds, fn5, g1, hw, hc, Bool.false_and, Bool.true_and, Bool.not_false, Bool.not_true, Bool.false_eq_true, if_true, if_false]
    | true =>
     simp only [Bool.not_true, Bool.false_eq_true, if_false, Rounds]
     refine ⟨?_, g4, ?_⟩
     · simp only [pre5, Bool.and_eq_true, decide_eq_true_eq]
       exact ⟨h1, trivial, g2, g3⟩
     · simp only [fn5, g1, hw, hc, Bool.true_and]
 · simp only [hlt, decide_false, Bool.false_eq_true, if_false, Rounds, fn5]
   rw [List.drop_eq_nil_of_le (by omega)]
   rfl
theorem eq (x0 : Log) (hw : wf x0) : raw x0 = some ((), (impl_LogOk x0, ())) := by
 have h1 : x0.2.2.1.length ≤ maxLen := hw.1.2.2.1.1
 have hpre : pre5 (x0.2.1, (x0.2.2.1, (((x0.2.2.1.length : Nat) : Int), ((0 : Int), ())))) = true := by simp [pre5, h1]
 unfold raw impl_LogOk LogOk
 cases ha : impl_within x0.1 0 300 with
 | false => simp
 | true =>
  cases hb : impl_within x0.2.1 0 300 with
  | false => simp
  | true =>
   have ha' := ha
   simp only [impl_within, Bool.and_eq_true, decide_eq_true_eq] at ha'
   rw [w64 (by omega) (by omega)]
   by_cases hl : (x0.2.2.1.length : Int) ≤ 300 - x0.1
   · have hn : ¬ (300 - x0.1 < (x0.2.2.1.length : Int)) := by omega
     simp only [Bool.not_true, Bool.false_eq_true, if_false, hn, decide_false, hpre, if_true, fn5, Int.toNat_zero, List.drop_zero, hl, decide_true, Bool.true_and]
     cases listOk x0.2.2.1 x0.2.1 <;> rfl
   · have hn : 300 - x0.1 < (x0.2.2.1.length : Int) := by omega
     simp [hl, hn]
end impl_LogOk
namespace spec_LogOk
abbrev S := Int × (Int × (Log × Unit))
def pre5 : S → Bool := fun s => decide (s.2.2.1.2.2.1.length ≤ maxLen) && (decide (0 ≤ s.2.1) && decide (s.2.1.toNat ≤ s.2.2.1.2.2.1.length))
def fn5 : S → (Bool × Unit) ⊕ Unit := fun s => if listOk (s.2.2.1.2.2.1.drop s.2.1.toNat) s.1 = true then .inr () else .inl (false, ())
def mu5 : S → Nat := fun s => s.2.2.1.2.2.1.length - s.2.1.toNat
noncomputable def raw5 (x1 : Int) (x2 : Int) (x3 : Log) : Option ((Int × (Int × (Log × Unit))) ⊕ ((Bool × Unit) ⊕ Unit)) :=
 if (decide (x2 < ((List.length x3.2.2.1 : Nat) : Int))) = true then
 if (decide ((0 : Int) ≤ x2)) = true then
 if (decide (x2 < ((List.length x3.2.2.1 : Nat) : Int))) = true then
 if (!(impl_within (List.getD x3.2.2.1 (Int.toNat x2) zd15).1 x1 (300 : Int))) = true then
 some (.inr (.inl (false, ())))
 else
 if (decide ((0 : Int) ≤ x2)) = true then
 if (decide (x2 < ((List.length x3.2.2.1 : Nat) : Int))) = true then
 if (!(CmdOk (List.getD x3.2.2.1 (Int.toNat x2) zd15).2.1)) = true then
 some (.inr (.inl (false, ())))
 else
 if (decide ((0 : Int) ≤ x2)) = true then
 if (decide (x2 < ((List.length x3.2.2.1 : Nat) : Int))) = true then
 some (.inl ((List.getD x3.2.2.1 (Int.toNat x2) zd15).1, ((IntKind.wrap .i64 (x2 + (1 : Int))), (x3, ()))))
 else
 none
 else
 none
 else
 none
 else
 none
 else
 none
 else
 none
 else
 some (.inr (.inr ()))
abbrev wf (x0 : Log) : Prop := wfA [(.val zk21 .f)] (x0, ())
noncomputable def raw (x0 : Log) : Option zt17 :=
 if (!(impl_within x0.1 (0 : Int) (300 : Int))) = true then
  some ((), (false, ()))
 else
  if (!(impl_within x0.2.1 (0 : Int) (300 : Int))) = true then
   some ((), (false, ()))
  else
   if (decide ((IntKind.wrap .i64 ((300 : Int) - x0.1)) < ((List.length x0.2.2.1 : Nat) : Int))) = true then
    some ((), (false, ()))
   else
    if (spec_LogOk.pre5 (x0.2.1, ((0 : Int), (x0, ())))) = true then
     match (spec_LogOk.fn5 (x0.2.1, ((0 : Int), (x0, ())))) with
     | .inl y =>
      some ((), y)
     | .inr y =>
      some ((), (true, ()))
    else
     none
theorem ok5 (x1 x2 : Int) (x3 : Log) (hp : pre5 (x1, (x2, (x3, ()))) = true) : Rounds pre5 mu5 fn5 (x1, (x2, (x3, ()))) (raw5 x1 x2 x3) := by
 simp only [pre5, Bool.and_eq_true, decide_eq_true_eq] at hp
 obtain ⟨h1, h3, h4⟩ := hp
 unfold raw5
 by_cases hlt : x2 < (x3.2.2.1.length : Int)
 · obtain ⟨g1, g2, g3, g4⟩ := lg_next (t := x1) h3 hlt h1
   simp only [hlt, h3, decide_true, if_true]
   cases hw : impl_within (x3.2.2.1.getD x2.toNat E0).1 x1 300 with
   | false => simp only [Rounds, fn5, g1, hw, Bool.false_and, Bool.not_false, Bool.false_eq_true, if_true, if_false]
   | true =>
    cases hc : CmdOk (x3.2.2.1.getD x2.toNat E0).2.1 with
    | false => simp only [Rounds, fn5, g1, hw, hc, Bool.false_and, Bool.true_and, Bool.not_false, Bool.not_true, Bool.false_eq_true, if_true, if_false]
    | true =>
     simp only [Bool.not_true, Bool.false_eq_true, if_false, Rounds]
     refine ⟨?_, g4, ?_⟩
     · simp only [pre5, Bool.and_eq_true, decide_eq_true_eq]
       exact ⟨h1, g2, g3⟩
     · simp only [fn5, g1, hw, hc, Bool.true_and]
 · simp only [hlt, decide_false, Bool.false_eq_true, if_false, Rounds, fn5]
   rw [List.drop_eq_nil_of_le (by omega)]
   rfl
theorem eq (x0 : Log) (hw : wf x0) : raw x0 = some ((), (spec_LogOk x0, ())) := by
 have h1 : x0.2.2.1.length ≤ maxLen := hw.1.2.2.1.1
 have hpre : pre5 (x0.2.1, ((0 : Int), (x0, ()))) = true := by simp [pre5, h1]
 unfold raw spec_LogOk LogOk
 cases ha : impl_within x0.1 0 300 with
 | false => simp
 | true =>
  cases hb : impl_within x0.2.1 0 300 with
  | false => simp
  | true =>
   have ha' := ha
   simp only [impl_within, Bool.and_eq_true, decide_eq_true_eq] at ha'
   rw [w64 (by omega) (by omega)]
   by_cases hl : (x0.2.2.1.length : Int) ≤ 300 - x0.1
   · have hn : ¬ (300 - x0.1 < (x0.2.2.1.length : Int)) := by omega
     simp only [Bool.not_true, Bool.false_eq_true, if_false, hn, decide_false, hpre, if_true, fn5, Int.toNat_zero, List.drop_zero, hl, decide_true, Bool.true_and]
     cases listOk x0.2.2.1 x0.2.1 <;> rfl
   · have hn : 300 - x0.1 < (x0.2.2.1.length : Int) := by omega
     simp [hl, hn]
end spec_LogOk
def digs (k : Nat) (out : List UInt8) : List UInt8 :=
 if k = 0 then out else digs (k / 10) (List.append (strOf (IntKind.wrap .u8 (IntKind.wrap .i64 (48 + Int.tmod (k : Int) 10)) :: ([] : List Int))) out)
termination_by k
decreasing_by omega
theorem digs_len (k : Nat) (out : List UInt8) : (digs k out).length ≤ k + out.length := by
 induction k using Nat.strongRecOn generalizing out with
 | ind k ih =>
  rw [digs]
  split
  · omega
  · rename_i h
    refine Nat.le_trans (ih (k / 10) (by omega) _) ?_
    simp only [List.append_eq, List.length_append, strOf, List.map_cons, List.map_nil, List.length_cons, List.length_nil]
    omega
def laws_markText (k : Int) : List UInt8 := if k ≤ 0 then [109, 48] else 109 :: digs k.toNat []
namespace laws_markText
def pre (k : Int) : Bool := decide (k ≤ 2147483648)
abbrev S := Int × (List UInt8 × Unit)
def pre4 : S → Bool := fun s => decide (0 ≤ s.1) && decide (s.1.toNat + s.2.1.length ≤ 4294967295)
def fn4 : S → List UInt8 × Unit := fun s => (digs s.1.toNat s.2.1, ())
def mu4 : S → Nat := fun s => s.1.toNat
noncomputable def raw4 (x1 : Int) (x2 : (List UInt8)) : Option ((Int × ((List UInt8) × Unit)) ⊕ ((List UInt8) × Unit)) :=
 if (decide ((0 : Int) < x1)) = true then
 if (!(decide ((10 : Int) = (0 : Int)))) = true then
 if (decide (List.length (strOf ((IntKind.wrap .u8 (IntKind.wrap .i64 ((48 : Int) + (Int.tmod x1 (10 : Int))))) :: ([] : List Int))) + List.length x2 ≤ lim)) = true then
 if (!(decide ((10 : Int) = (0 : Int)))) = true then
 some (.inl ((IntKind.wrap .i64 (Int.tdiv x1 (10 : Int))), ((List.append (strOf ((IntKind.wrap .u8 (IntKind.wrap .i64 ((48 : Int) + (Int.tmod x1 (10 : Int))))) :: ([] : List Int))) x2), ())))
 else
 none
 else
 none
 else
 none
 else
 some (.inr (x2, ()))
abbrev wf (x0 : Int) : Prop := wfA [(.val (.int .i64) .f)] (x0, ())
noncomputable def raw (x0 : Int) : Option (Unit × ((List UInt8) × Unit)) :=
 if (decide (x0 ≤ (0 : Int))) = true then
 some ((), (((109 : UInt8) :: ((48 : UInt8) :: ([] : List UInt8))), ()))
 else
 if (laws_markText.pre4 (x0, (([] : List UInt8), ()))) = true then
 if (decide (List.length ((109 : UInt8) :: ([] : List UInt8)) + List.length (laws_markText.fn4 (x0, (([] : List UInt8), ()))).1 ≤ lim)) = true then
 some ((), ((List.append ((109 : UInt8) :: ([] : List UInt8)) (laws_markText.fn4 (x0, (([] : List UInt8), ()))).1), ()))
 else
 none
 else
 none
theorem ok4 (x1 : Int) (x2 : List UInt8) (hp : pre4 (x1, (x2, ())) = true) : Rounds pre4 mu4 fn4 (x1, (x2, ())) (raw4 x1 x2) := by
 simp only [pre4, Bool.and_eq_true, decide_eq_true_eq] at hp
 obtain ⟨h1, h2⟩ := hp
 unfold raw4
 by_cases h : 0 < x1
 · have hd : Int.tdiv x1 10 = x1 / 10 := Int.tdiv_eq_ediv_of_nonneg h1
   have hn : ((x1.toNat : Nat) : Int) = x1 := Int.toNat_of_nonneg h1
   rw [if_pos (by simp [h]), if_pos (by decide), if_pos (by simp only [strOf, List.map_cons, List.map_nil, List.length_cons, List.length_nil, decide_eq_true_eq, lim]; omega), if_pos (by decide), hd, w64 (by omega) (by omega)]
   simp only [Rounds]
   refine ⟨?_, by simp only [mu4]; omega, ?_⟩
   · simp only [pre4, Bool.and_eq_true, decide_eq_true_eq, List.append_eq, List.length_append, strOf, List.map_cons, List.map_nil, List.length_cons, List.length_nil]
     omega
   · simp only [fn4]
     conv => rhs; rw [digs, if_neg (by omega), hn]
     rw [show (x1 / 10).toNat = x1.toNat / 10 by omega]
 · rw [if_neg (by simp [h])]
   simp only [Rounds, fn4]
   rw [show x1.toNat = 0 by omega, digs, if_pos rfl]
theorem eq (x0 : Int) (_ : wf x0) (hp : pre x0 = true) : raw x0 = some ((), (laws_markText x0, ())) := by
 simp only [pre, decide_eq_true_eq] at hp
 unfold raw laws_markText
 by_cases h : x0 ≤ 0
 · simp [h]
 · have hl := digs_len x0.toNat []
   simp only [List.length_nil, Nat.add_zero] at hl
   have hl' : (fn4 (x0, (([] : List UInt8), ()))).1.length ≤ x0.toNat := hl
   rw [if_neg (by simp [h]), if_pos (show pre4 _ = true by simp only [pre4, Bool.and_eq_true, decide_eq_true_eq, List.length_nil]; omega), if_pos (by rw [decide_eq_true_eq]; simp only [List.length_cons, List.length_nil, lim]; omega), if_neg h]
   rfl
end laws_markText
def mE (k : Int) : Entry := (k, ((k + 1, (k + 1 + 1, (k + 1 + 1 + 1, (k + 1 + 1 + 1 + 1, (k + 1 + 1 + 1 + 1 + 1, (k + 1 + 1 + 1 + 1 + 1 + 1, (laws_markText (k + 1 + 1 + 1 + 1 + 1 + 1 + 1), (laws_markText (k + 1 + 1 + 1 + 1 + 1 + 1 + 1 + 1), ())))))))), ()))
def markEL : Nat → Int → List Entry
 | 0, _ => []
 | n + 1, k => mE k :: markEL n (k + 1 + 1 + 1 + 1 + 1 + 1 + 1 + 1 + 1)
def laws_markEntryS (xs : List Entry) (k : Int) : List Entry × Int := (markEL xs.length k, k + 9 * xs.length)
namespace laws_markEntryS
def pre (xs : List Entry) (k : Int) : Bool := small xs && (decide (0 ≤ k) && decide (k ≤ 1073741824))
abbrev S := Int × (Int × (List Entry × Unit))
def pre2 : S → Bool := fun s => decide (s.2.2.1.length ≤ 16777216) && (decide (0 ≤ s.2.1) && (decide (s.2.1.toNat ≤ s.2.2.1.length) && (decide (0 ≤ s.1) && decide (s.1 + 9 * (s.2.2.1.length - s.2.1) ≤ 2147483600))))
def fn2 : S → Int × (List Entry × Unit) := fun s => (s.1 + 9 * (s.2.2.1.length - s.2.1), (s.2.2.1.take s.2.1.toNat ++ markEL (s.2.2.1.length - s.2.1.toNat) s.1, ()))
def mu2 : S → Nat := fun s => s.2.2.1.length - s.2.1.toNat
noncomputable def raw2 (x1 : Int) (x2 : Int) (x3 : (List Entry)) : Option (Log ⊕ (Int × ((List Entry) × Unit))) :=
 if (decide (x2 < ((List.length x3 : Nat) : Int))) = true then
 if (decide ((0 : Int) ≤ x2)) = true then
 if (decide (x2 < ((List.length x3 : Nat) : Int))) = true then
 if (decide ((0 : Int) ≤ x2)) = true then
 if (decide (x2 < ((List.length (List.modify x3 (Int.toNat x2) (fun z => (x1, z.2))) : Nat) : Int))) = true then
 if (decide ((0 : Int) ≤ x2)) = true then
 if (decide (x2 < ((List.length (List.modify (List.modify x3 (Int.toNat x2) (fun z => (x1, z.2))) (Int.toNat x2) (fun z => (z.1, (((IntKind.wrap .i64 (x1 + (1 : Int))), z.2.1.2), z.2.2)))) : Nat) : Int))) = true then
 if (decide ((0 : Int) ≤ x2)) = true then
 if (decide (x2 < ((List.length (List.modify (List.modify (List.modify x3 (Int.toNat x2) (fun z => (x1, z.2))) (Int.toNat x2) (fun z => (z.1, (((IntKind.wrap .i64 (x1 + (1 : Int))), z.2.1.2), z.2.2)))) (Int.toNat x2) (fun z => (z.1, ((z.2.1.1, ((IntKind.wrap .i64 ((IntKind.wrap .i64 (x1 + (1 : Int))) + (1 : Int))), z.2.1.2.2)), z.2.2)))) : Nat) : Int))) = true then
 if (decide ((0 : Int) ≤ x2)) = true then
 if (decide (x2 < ((List.length (List.modify (List.modify (List.modify (List.modify x3 (Int.toNat x2) (fun z => (x1, z.2))) (Int.toNat x2) (fun z => (z.1, (((IntKind.wrap .i64 (x1 + (1 : Int))), z.2.1.2), z.2.2)))) (Int.toNat x2) (fun z => (z.1, ((z.2.1.1, ((IntKind.wrap .i64 ((IntKind.wrap .i64 (x1 + (1 : Int))) + (1 : Int))), z.2.1.2.2)), z.2.2)))) (Int.toNat x2) (fun z => (z.1, ((z.2.1.1, (z.2.1.2.1, ((IntKind.wrap .i64 ((IntKind.wrap .i64 ((IntKind.wrap .i64 (x1 + (1 : Int))) + (1 : Int))) + (1 : Int))), z.2.1.2.2.2))), z.2.2)))) : Nat) : Int))) = true then
 if (decide ((0 : Int) ≤ x2)) = true then
 if (decide (x2 < ((List.length (List.modify (List.modify (List.modify (List.modify (List.modify x3 (Int.toNat x2) (fun z => (x1, z.2))) (Int.toNat x2) (fun z => (z.1, (((IntKind.wrap .i64 (x1 + (1 : Int))), z.2.1.2), z.2.2)))) (Int.toNat x2) (fun z => (z.1, ((z.2.1.1, ((IntKind.wrap .i64 ((IntKind.wrap .i64 (x1 + (1 : Int))) + (1 : Int))), z.2.1.2.2)), z.2.2)))) (Int.toNat x2) (fun z => (z.1, ((z.2.1.1, (z.2.1.2.1, ((IntKind.wrap .i64 ((IntKind.wrap .i64 ((IntKind.wrap .i64 (x1 + (1 : Int))) + (1 : Int))) + (1 : Int))), z.2.1.2.2.2))), z.2.2)))) (Int.toNat x2) (fun z => (z.1, ((z.2.1.1, (z.2.1.2.1, (z.2.1.2.2.1, ((IntKind.wrap .i64 ((IntKind.wrap .i64 ((IntKind.wrap .i64 ((IntKind.wrap .i64 (x1 + (1 : Int))) + (1 : Int))) + (1 : Int))) + (1 : Int))), z.2.1.2.2.2.2)))), z.2.2)))) : Nat) : Int))) = true then
 if (decide ((0 : Int) ≤ x2)) = true then
 if (decide (x2 < ((List.length (List.modify (List.modify (List.modify (List.modify (List.modify (List.modify x3 (Int.toNat x2) (fun z => (x1, z.2))) (Int.toNat x2) (fun z => (z.1, (((IntKind.wrap .i64 (x1 + (1 : Int))), z.2.1.2), z.2.2)))) (Int.toNat x2) (fun z => (z.1, ((z.2.1.1, ((IntKind.wrap .i64 ((IntKind.wrap .i64 (x1 + (1 : Int))) + (1 : Int))), z.2.1.2.2)), z.2.2)))) (Int.toNat x2) (fun z => (z.1, ((z.2.1.1, (z.2.1.2.1, ((IntKind.wrap .i64 ((IntKind.wrap .i64 ((IntKind.wrap .i64 (x1 + (1 : Int))) + (1 : Int))) + (1 : Int))), z.2.1.2.2.2))), z.2.2)))) (Int.toNat x2) (fun z => (z.1, ((z.2.1.1, (z.2.1.2.1, (z.2.1.2.2.1, ((IntKind.wrap .i64 ((IntKind.wrap .i64 ((IntKind.wrap .i64 ((IntKind.wrap .i64 (x1 + (1 : Int))) + (1 : Int))) + (1 : Int))) + (1 : Int))), z.2.1.2.2.2.2)))), z.2.2)))) (Int.toNat x2) (fun z => (z.1, ((z.2.1.1, (z.2.1.2.1, (z.2.1.2.2.1, (z.2.1.2.2.2.1, ((IntKind.wrap .i64 ((IntKind.wrap .i64 ((IntKind.wrap .i64 ((IntKind.wrap .i64 ((IntKind.wrap .i64 (x1 + (1 : Int))) + (1 : Int))) + (1 : Int))) + (1 : Int))) + (1 : Int))), z.2.1.2.2.2.2.2))))), z.2.2)))) : Nat) : Int))) = true then
 if (laws_markText.pre (IntKind.wrap .i64 ((IntKind.wrap .i64 ((IntKind.wrap .i64 ((IntKind.wrap .i64 ((IntKind.wrap .i64 ((IntKind.wrap .i64 ((IntKind.wrap .i64 (x1 + (1 : Int))) + (1 : Int))) + (1 : Int))) + (1 : Int))) + (1 : Int))) + (1 : Int))) + (1 : Int)))) = true then
 if (decide ((0 : Int) ≤ x2)) = true then
 if (decide (x2 < ((List.length (List.modify (List.modify (List.modify (List.modify (List.modify (List.modify (List.modify x3 (Int.toNat x2) (fun z => (x1, z.2))) (Int.toNat x2) (fun z => (z.1, (((IntKind.wrap .i64 (x1 + (1 : Int))), z.2.1.2), z.2.2)))) (Int.toNat x2) (fun z => (z.1, ((z.2.1.1, ((IntKind.wrap .i64 ((IntKind.wrap .i64 (x1 + (1 : Int))) + (1 : Int))), z.2.1.2.2)), z.2.2)))) (Int.toNat x2) (fun z => (z.1, ((z.2.1.1, (z.2.1.2.1, ((IntKind.wrap .i64 ((IntKind.wrap .i64 ((IntKind.wrap .i64 (x1 + (1 : Int))) + (1 : Int))) + (1 : Int))), z.2.1.2.2.2))), z.2.2)))) (Int.toNat x2) (fun z => (z.1, ((z.2.1.1, (z.2.1.2.1, (z.2.1.2.2.1, ((IntKind.wrap .i64 ((IntKind.wrap .i64 ((IntKind.wrap .i64 ((IntKind.wrap .i64 (x1 + (1 : Int))) + (1 : Int))) + (1 : Int))) + (1 : Int))), z.2.1.2.2.2.2)))), z.2.2)))) (Int.toNat x2) (fun z => (z.1, ((z.2.1.1, (z.2.1.2.1, (z.2.1.2.2.1, (z.2.1.2.2.2.1, ((IntKind.wrap .i64 ((IntKind.wrap .i64 ((IntKind.wrap .i64 ((IntKind.wrap .i64 ((IntKind.wrap .i64 (x1 + (1 : Int))) + (1 : Int))) + (1 : Int))) + (1 : Int))) + (1 : Int))), z.2.1.2.2.2.2.2))))), z.2.2)))) (Int.toNat x2) (fun z => (z.1, ((z.2.1.1, (z.2.1.2.1, (z.2.1.2.2.1, (z.2.1.2.2.2.1, (z.2.1.2.2.2.2.1, ((IntKind.wrap .i64 ((IntKind.wrap .i64 ((IntKind.wrap .i64 ((IntKind.wrap .i64 ((IntKind.wrap .i64 ((IntKind.wrap .i64 (x1 + (1 : Int))) + (1 : Int))) + (1 : Int))) + (1 : Int))) + (1 : Int))) + (1 : Int))), z.2.1.2.2.2.2.2.2)))))), z.2.2)))) : Nat) : Int))) = true then
 if (laws_markText.pre (IntKind.wrap .i64 ((IntKind.wrap .i64 ((IntKind.wrap .i64 ((IntKind.wrap .i64 ((IntKind.wrap .i64 ((IntKind.wrap .i64 ((IntKind.wrap .i64 ((IntKind.wrap .i64 (x1 + (1 : Int))) + (1 : Int))) + (1 : Int))) + (1 : Int))) + (1 : Int))) + (1 : Int))) + (1 : Int))) + (1 : Int)))) = true then
 if (decide ((0 : Int) ≤ x2)) = true then
 if (decide (x2 < ((List.length (List.modify (List.modify (List.modify (List.modify (List.modify (List.modify (List.modify (List.modify x3 (Int.toNat x2) (fun z => (x1, z.2))) (Int.toNat x2) (fun z => (z.1, (((IntKind.wrap .i64 (x1 + (1 : Int))), z.2.1.2), z.2.2)))) (Int.toNat x2) (fun z => (z.1, ((z.2.1.1, ((IntKind.wrap .i64 ((IntKind.wrap .i64 (x1 + (1 : Int))) + (1 : Int))), z.2.1.2.2)), z.2.2)))) (Int.toNat x2) (fun z => (z.1, ((z.2.1.1, (z.2.1.2.1, ((IntKind.wrap .i64 ((IntKind.wrap .i64 ((IntKind.wrap .i64 (x1 + (1 : Int))) + (1 : Int))) + (1 : Int))), z.2.1.2.2.2))), z.2.2)))) (Int.toNat x2) (fun z => (z.1, ((z.2.1.1, (z.2.1.2.1, (z.2.1.2.2.1, ((IntKind.wrap .i64 ((IntKind.wrap .i64 ((IntKind.wrap .i64 ((IntKind.wrap .i64 (x1 + (1 : Int))) + (1 : Int))) + (1 : Int))) + (1 : Int))), z.2.1.2.2.2.2)))), z.2.2)))) (Int.toNat x2) (fun z => (z.1, ((z.2.1.1, (z.2.1.2.1, (z.2.1.2.2.1, (z.2.1.2.2.2.1, ((IntKind.wrap .i64 ((IntKind.wrap .i64 ((IntKind.wrap .i64 ((IntKind.wrap .i64 ((IntKind.wrap .i64 (x1 + (1 : Int))) + (1 : Int))) + (1 : Int))) + (1 : Int))) + (1 : Int))), z.2.1.2.2.2.2.2))))), z.2.2)))) (Int.toNat x2) (fun z => (z.1, ((z.2.1.1, (z.2.1.2.1, (z.2.1.2.2.1, (z.2.1.2.2.2.1, (z.2.1.2.2.2.2.1, ((IntKind.wrap .i64 ((IntKind.wrap .i64 ((IntKind.wrap .i64 ((IntKind.wrap .i64 ((IntKind.wrap .i64 ((IntKind.wrap .i64 (x1 + (1 : Int))) + (1 : Int))) + (1 : Int))) + (1 : Int))) + (1 : Int))) + (1 : Int))), z.2.1.2.2.2.2.2.2)))))), z.2.2)))) (Int.toNat x2) (fun z => (z.1, ((z.2.1.1, (z.2.1.2.1, (z.2.1.2.2.1, (z.2.1.2.2.2.1, (z.2.1.2.2.2.2.1, (z.2.1.2.2.2.2.2.1, ((laws_markText (IntKind.wrap .i64 ((IntKind.wrap .i64 ((IntKind.wrap .i64 ((IntKind.wrap .i64 ((IntKind.wrap .i64 ((IntKind.wrap .i64 ((IntKind.wrap .i64 (x1 + (1 : Int))) + (1 : Int))) + (1 : Int))) + (1 : Int))) + (1 : Int))) + (1 : Int))) + (1 : Int)))), z.2.1.2.2.2.2.2.2.2))))))), z.2.2)))) : Nat) : Int))) = true then
 some (.inl ((IntKind.wrap .i64 ((IntKind.wrap .i64 ((IntKind.wrap .i64 ((IntKind.wrap .i64 ((IntKind.wrap .i64 ((IntKind.wrap .i64 ((IntKind.wrap .i64 ((IntKind.wrap .i64 ((IntKind.wrap .i64 (x1 + (1 : Int))) + (1 : Int))) + (1 : Int))) + (1 : Int))) + (1 : Int))) + (1 : Int))) + (1 : Int))) + (1 : Int))) + (1 : Int))), ((IntKind.wrap .i64 (x2 + (1 : Int))), ((List.modify (List.modify (List.modify (List.modify (List.modify (List.modify (List.modify (List.modify (List.modify x3 (Int.toNat x2) (fun z => (x1, z.2))) (Int.toNat x2) (fun z => (z.1, (((IntKind.wrap .i64 (x1 + (1 : Int))), z.2.1.2), z.2.2)))) (Int.toNat x2) (fun z => (z.1, ((z.2.1.1, ((IntKind.wrap .i64 ((IntKind.wrap .i64 (x1 + (1 : Int))) + (1 : Int))), z.2.1.2.2)), z.2.2)))) (Int.toNat x2) (fun z => (z.1, ((z.2.1.1, (z.2.1.2.1, ((IntKind.wrap .i64 ((IntKind.wrap .i64 ((IntKind.wrap .i64 (x1 + (1 : Int))) + (1 : Int))) + (1 : Int))), z.2.1.2.2.2))), z.2.2)))) (Int.toNat x2) (fun z => (z.1, ((z.2.1.1, (z.2.1.2.1, (z.2.1.2.2.1, ((IntKind.wrap .i64 ((IntKind.wrap .i64 ((IntKind.wrap .i64 ((IntKind.wrap .i64 (x1 + (1 : Int))) + (1 : Int))) + (1 : Int))) + (1 : Int))), z.2.1.2.2.2.2)))), z.2.2)))) (Int.toNat x2) (fun z => (z.1, ((z.2.1.1, (z.2.1.2.1, (z.2.1.2.2.1, (z.2.1.2.2.2.1, ((IntKind.wrap .i64 ((IntKind.wrap .i64 ((IntKind.wrap .i64 ((IntKind.wrap .i64 ((IntKind.wrap .i64 (x1 + (1 : Int))) + (1 : Int))) + (1 : Int))) + (1 : Int))) + (1 : Int))), z.2.1.2.2.2.2.2))))), z.2.2)))) (Int.toNat x2) (fun z => (z.1, ((z.2.1.1, (z.2.1.2.1, (z.2.1.2.2.1, (z.2.1.2.2.2.1, (z.2.1.2.2.2.2.1, ((IntKind.wrap .i64 ((IntKind.wrap .i64 ((IntKind.wrap .i64 ((IntKind.wrap .i64 ((IntKind.wrap .i64 ((IntKind.wrap .i64 (x1 + (1 : Int))) + (1 : Int))) + (1 : Int))) + (1 : Int))) + (1 : Int))) + (1 : Int))), z.2.1.2.2.2.2.2.2)))))), z.2.2)))) (Int.toNat x2) (fun z => (z.1, ((z.2.1.1, (z.2.1.2.1, (z.2.1.2.2.1, (z.2.1.2.2.2.1, (z.2.1.2.2.2.2.1, (z.2.1.2.2.2.2.2.1, ((laws_markText (IntKind.wrap .i64 ((IntKind.wrap .i64 ((IntKind.wrap .i64 ((IntKind.wrap .i64 ((IntKind.wrap .i64 ((IntKind.wrap .i64 ((IntKind.wrap .i64 (x1 + (1 : Int))) + (1 : Int))) + (1 : Int))) + (1 : Int))) + (1 : Int))) + (1 : Int))) + (1 : Int)))), z.2.1.2.2.2.2.2.2.2))))))), z.2.2)))) (Int.toNat x2) (fun z => (z.1, ((z.2.1.1, (z.2.1.2.1, (z.2.1.2.2.1, (z.2.1.2.2.2.1, (z.2.1.2.2.2.2.1, (z.2.1.2.2.2.2.2.1, (z.2.1.2.2.2.2.2.2.1, ((laws_markText (IntKind.wrap .i64 ((IntKind.wrap .i64 ((IntKind.wrap .i64 ((IntKind.wrap .i64 ((IntKind.wrap .i64 ((IntKind.wrap .i64 ((IntKind.wrap .i64 ((IntKind.wrap .i64 (x1 + (1 : Int))) + (1 : Int))) + (1 : Int))) + (1 : Int))) + (1 : Int))) + (1 : Int))) + (1 : Int))) + (1 : Int)))), z.2.1.2.2.2.2.2.2.2.2)))))))), z.2.2)))), ()))))
 else
 none
 else
 none
 else
 none
 else
 none
 else
 none
 else
 none
 else
 none
 else
 none
 else
 none
 else
 none
 else
 none
 else
 none
 else
 none
 else
 none
 else
 none
 else
 none
 else
 none
 else
 none
 else
 none
 else
 none
 else
 some (.inr (x1, (x3, ())))
abbrev wf (x0 : (List Entry)) (x1 : Int) : Prop := wfA [(.mut (.sl 0 zk3)), (.val (.int .i64) .f)] (x0, (x1, ()))
noncomputable def raw (x0 : (List Entry)) (x1 : Int) : Option (((List Entry) × Unit) × (Int × Unit)) :=
 if (laws_markEntryS.pre2 (x1, ((0 : Int), (x0, ())))) = true then
 some ((laws_markEntryS.fn2 (x1, ((0 : Int), (x0, ())))).2, ((laws_markEntryS.fn2 (x1, ((0 : Int), (x0, ())))).1, ()))
 else
 none
theorem ok2 (x1 x2 : Int) (x3 : List Entry) (hp : pre2 (x1, (x2, (x3, ()))) = true) : Rounds pre2 mu2 fn2 (x1, (x2, (x3, ()))) (raw2 x1 x2 x3) := by
 simp only [pre2, Bool.and_eq_true, decide_eq_true_eq] at hp
 obtain ⟨h1, h2, h3, h4, h5⟩ := hp
 unfold raw2
 by_cases hlt : x2 < (x3.length : Int)
 · have hn : x2.toNat < x3.length := by omega
   have w1 : IntKind.wrap .i64 (x1 + 1) = x1 + 1 := w64 (by omega) (by omega)
   have w2 : IntKind.wrap .i64 (x1 + 1 + 1) = x1 + 1 + 1 := w64 (by omega) (by omega)
   have w3 : IntKind.wrap .i64 (x1 + 1 + 1 + 1) = x1 + 1 + 1 + 1 := w64 (by omega) (by omega)
   have w4 : IntKind.wrap .i64 (x1 + 1 + 1 + 1 + 1) = x1 + 1 + 1 + 1 + 1 := w64 (by omega) (by omega)
   have w5 : IntKind.wrap .i64 (x1 + 1 + 1 + 1 + 1 + 1) = x1 + 1 + 1 + 1 + 1 + 1 := w64 (by omega) (by omega)
   have w6 : IntKind.wrap .i64 (x1 + 1 + 1 + 1 + 1 + 1 + 1) = x1 + 1 + 1 + 1 + 1 + 1 + 1 := w64 (by omega) (by omega)
   have w7 : IntKind.wrap .i64 (x1 + 1 + 1 + 1 + 1 + 1 + 1 + 1) = x1 + 1 + 1 + 1 + 1 + 1 + 1 + 1 := w64 (by omega) (by omega)
   have w8 : IntKind.wrap .i64 (x1 + 1 + 1 + 1 + 1 + 1 + 1 + 1 + 1) = x1 + 1 + 1 + 1 + 1 + 1 + 1 + 1 + 1 := w64 (by omega) (by omega)
   have w9 : IntKind.wrap .i64 (x1 + 1 + 1 + 1 + 1 + 1 + 1 + 1 + 1 + 1) = x1 + 1 + 1 + 1 + 1 + 1 + 1 + 1 + 1 + 1 := w64 (by omega) (by omega)
   have p7 : laws_markText.pre (x1 + 1 + 1 + 1 + 1 + 1 + 1 + 1) = true := by simp only [laws_markText.pre, decide_eq_true_eq]; omega
   have p8 : laws_markText.pre (x1 + 1 + 1 + 1 + 1 + 1 + 1 + 1 + 1) = true := by simp only [laws_markText.pre, decide_eq_true_eq]; omega
   simp only [List.length_modify, hlt, h2, decide_true, if_true, w1, w2, w3, w4, w5, w6, w7, w8, w9, p7, p8, w64 (n := x2 + 1) (by omega) (by omega)]
   simp only [List.modify_modify_eq]
   have hm := modify_const x3 x2.toNat (mE x1)
   refine (?_ : Rounds pre2 mu2 fn2 (x1, (x2, (x3, ()))) (some (.inl (x1 + 1 + 1 + 1 + 1 + 1 + 1 + 1 + 1 + 1, (x2 + 1, (x3.modify x2.toNat (fun _ => mE x1), ()))))))
   rw [hm]
   simp only [Rounds]
   refine ⟨?_, by simp only [mu2, List.length_set]; omega, ?_⟩
   · simp only [pre2, Bool.and_eq_true, decide_eq_true_eq, List.length_set]
     omega
   · simp only [fn2, List.length_set, show (x2 + 1).toNat = x2.toNat + 1 by omega]
     rw [show x3.length - x2.toNat = (x3.length - (x2.toNat + 1)) + 1 by omega]
     simp only [markEL]
     rw [List.take_add_one, List.take_set_of_le (by omega), List.getElem?_set_self (by omega)]
     refine Prod.ext (by show _ = _; omega) (Prod.ext ?_ rfl)
     simp
 · simp only [hlt, decide_false, Bool.false_eq_true, if_false, Rounds, fn2]
   rw [show x3.length - x2.toNat = 0 by omega, show x2.toNat = x3.length by omega]
   refine Prod.ext (by show _ = _; omega) (Prod.ext ?_ rfl)
   simp [markEL]
theorem eq (x0 : List Entry) (x1 : Int) (_ : wf x0 x1) (hp : pre x0 x1 = true) : raw x0 x1 = some (((laws_markEntryS x0 x1).1, ()), ((laws_markEntryS x0 x1).2, ())) := by
 simp only [pre, Bool.and_eq_true, decide_eq_true_eq, small_iff] at hp
 unfold raw laws_markEntryS
 rw [if_pos (show pre2 _ = true by simp only [pre2, Bool.and_eq_true, decide_eq_true_eq]; simp; omega)]
 simp [fn2]
end laws_markEntryS
def laws_markLog (x : Log) (k : Int) : Log × Int := ((x.1, (x.2.1, (markEL x.2.2.1.length k, ()))), k + 9 * x.2.2.1.length)
namespace laws_markLog
def pre (x : Log) (k : Int) : Bool := laws_markEntryS.pre x.2.2.1 k
abbrev wf (x0 : Log) (x1 : Int) : Prop := wfA [(.mut zk21), (.val (.int .i64) .f)] (x0, (x1, ()))
noncomputable def raw (x0 : Log) (x1 : Int) : Option ((Log × Unit) × (Int × Unit)) :=
 if (laws_markEntryS.pre x0.2.2.1 x1) = true then
 some (((x0.1, (x0.2.1, ((laws_markEntryS x0.2.2.1 x1).1, x0.2.2.2))), ()), ((laws_markEntryS x0.2.2.1 x1).2, ()))
 else
 none
theorem eq (x0 : Log) (x1 : Int) (_ : wf x0 x1) (hp : pre x0 x1 = true) : raw x0 x1 = some (((laws_markLog x0 x1).1, ()), ((laws_markLog x0 x1).2, ())) := by
 unfold raw
 rw [if_pos (show laws_markEntryS.pre _ _ = true from hp)]
 rfl
end laws_markLog
open Classical in
noncomputable def laws_heldEntryS (xs : List Entry) (k : Int) : Int := if xs = markEL xs.length k then k + 9 * xs.length else -1
namespace laws_heldEntryS
def pre (xs : List Entry) (k : Int) : Bool := laws_markEntryS.pre xs k
abbrev S := List Entry × (Int × (Int × Unit))
def pre2 : S → Bool := fun s => decide (s.1.length ≤ 16777216) && (decide (0 ≤ s.2.2.1) && (decide (s.2.2.1.toNat ≤ s.1.length) && (decide (0 ≤ s.2.1) && decide (s.2.1 + 9 * (s.1.length - s.2.2.1) ≤ 2147483600))))
open Classical in
noncomputable def fn2 : S → (Int × Unit) ⊕ (Int × Unit) := fun s => if s.1.drop s.2.2.1.toNat = markEL (s.1.length - s.2.2.1.toNat) s.2.1 then .inr (s.2.1 + 9 * (s.1.length - s.2.2.1), ()) else .inl (-1, ())
def mu2 : S → Nat := fun s => s.1.length - s.2.2.1.toNat
noncomputable def raw2 (x1 : (List Entry)) (x2 : Int) (x3 : Int) : Option (((List Entry) × Mark) ⊕ ((Int × Unit) ⊕ (Int × Unit))) :=
 if (decide (x3 < ((List.length x1 : Nat) : Int))) = true then
 if (decide ((0 : Int) ≤ x3)) = true then
 if (decide (x3 < ((List.length x1 : Nat) : Int))) = true then
 if (!(decide ((List.getD x1 (Int.toNat x3) zd15).1 = x2))) = true then
 some (.inr (.inl ((-1 : Int), ())))
 else
 if (decide ((0 : Int) ≤ x3)) = true then
 if (decide (x3 < ((List.length x1 : Nat) : Int))) = true then
 if (!(decide ((List.getD x1 (Int.toNat x3) zd15).2.1.1 = (IntKind.wrap .i64 (x2 + (1 : Int)))))) = true then
 some (.inr (.inl ((-1 : Int), ())))
 else
 if (decide ((0 : Int) ≤ x3)) = true then
 if (decide (x3 < ((List.length x1 : Nat) : Int))) = true then
 if (!(decide ((List.getD x1 (Int.toNat x3) zd15).2.1.2.1 = (IntKind.wrap .i64 ((IntKind.wrap .i64 (x2 + (1 : Int))) + (1 : Int)))))) = true then
 some (.inr (.inl ((-1 : Int), ())))
 else
 if (decide ((0 : Int) ≤ x3)) = true then
 if (decide (x3 < ((List.length x1 : Nat) : Int))) = true then
 if (!(decide ((List.getD x1 (Int.toNat x3) zd15).2.1.2.2.1 = (IntKind.wrap .i64 ((IntKind.wrap .i64 ((IntKind.wrap .i64 (x2 + (1 : Int))) + (1 : Int))) + (1 : Int)))))) = true then
 some (.inr (.inl ((-1 : Int), ())))
 else
 if (decide ((0 : Int) ≤ x3)) = true then
 if (decide (x3 < ((List.length x1 : Nat) : Int))) = true then
 if (!(decide ((List.getD x1 (Int.toNat x3) zd15).2.1.2.2.2.1 = (IntKind.wrap .i64 ((IntKind.wrap .i64 ((IntKind.wrap .i64 ((IntKind.wrap .i64 (x2 + (1 : Int))) + (1 : Int))) + (1 : Int))) + (1 : Int)))))) = true then
 some (.inr (.inl ((-1 : Int), ())))
 else
 if (decide ((0 : Int) ≤ x3)) = true then
 if (decide (x3 < ((List.length x1 : Nat) : Int))) = true then
 if (!(decide ((List.getD x1 (Int.toNat x3) zd15).2.1.2.2.2.2.1 = (IntKind.wrap .i64 ((IntKind.wrap .i64 ((IntKind.wrap .i64 ((IntKind.wrap .i64 ((IntKind.wrap .i64 (x2 + (1 : Int))) + (1 : Int))) + (1 : Int))) + (1 : Int))) + (1 : Int)))))) = true then
 some (.inr (.inl ((-1 : Int), ())))
 else
 if (decide ((0 : Int) ≤ x3)) = true then
 if (decide (x3 < ((List.length x1 : Nat) : Int))) = true then
 if (!(decide ((List.getD x1 (Int.toNat x3) zd15).2.1.2.2.2.2.2.1 = (IntKind.wrap .i64 ((IntKind.wrap .i64 ((IntKind.wrap .i64 ((IntKind.wrap .i64 ((IntKind.wrap .i64 ((IntKind.wrap .i64 (x2 + (1 : Int))) + (1 : Int))) + (1 : Int))) + (1 : Int))) + (1 : Int))) + (1 : Int)))))) = true then
 some (.inr (.inl ((-1 : Int), ())))
 else
 if (decide ((0 : Int) ≤ x3)) = true then
 if (decide (x3 < ((List.length x1 : Nat) : Int))) = true then
 if (laws_markText.pre (IntKind.wrap .i64 ((IntKind.wrap .i64 ((IntKind.wrap .i64 ((IntKind.wrap .i64 ((IntKind.wrap .i64 ((IntKind.wrap .i64 ((IntKind.wrap .i64 (x2 + (1 : Int))) + (1 : Int))) + (1 : Int))) + (1 : Int))) + (1 : Int))) + (1 : Int))) + (1 : Int)))) = true then
 if (!((List.getD x1 (Int.toNat x3) zd15).2.1.2.2.2.2.2.2.1 == (laws_markText (IntKind.wrap .i64 ((IntKind.wrap .i64 ((IntKind.wrap .i64 ((IntKind.wrap .i64 ((IntKind.wrap .i64 ((IntKind.wrap .i64 ((IntKind.wrap .i64 (x2 + (1 : Int))) + (1 : Int))) + (1 : Int))) + (1 : Int))) + (1 : Int))) + (1 : Int))) + (1 : Int)))))) = true then
 some (.inr (.inl ((-1 : Int), ())))
 else
 if (decide ((0 : Int) ≤ x3)) = true then
 if (decide (x3 < ((List.length x1 : Nat) : Int))) = true then
 if (laws_markText.pre (IntKind.wrap .i64 ((IntKind.wrap .i64 ((IntKind.wrap .i64 ((IntKind.wrap .i64 ((IntKind.wrap .i64 ((IntKind.wrap .i64 ((IntKind.wrap .i64 ((IntKind.wrap .i64 (x2 + (1 : Int))) + (1 : Int))) + (1 : Int))) + (1 : Int))) + (1 : Int))) + (1 : Int))) + (1 : Int))) + (1 : Int)))) = true then
 if (!((List.getD x1 (Int.toNat x3) zd15).2.1.2.2.2.2.2.2.2.1 == (laws_markText (IntKind.wrap .i64 ((IntKind.wrap .i64 ((IntKind.wrap .i64 ((IntKind.wrap .i64 ((IntKind.wrap .i64 ((IntKind.wrap .i64 ((IntKind.wrap .i64 ((IntKind.wrap .i64 (x2 + (1 : Int))) + (1 : Int))) + (1 : Int))) + (1 : Int))) + (1 : Int))) + (1 : Int))) + (1 : Int))) + (1 : Int)))))) = true then
 some (.inr (.inl ((-1 : Int), ())))
 else
 some (.inl (x1, ((IntKind.wrap .i64 ((IntKind.wrap .i64 ((IntKind.wrap .i64 ((IntKind.wrap .i64 ((IntKind.wrap .i64 ((IntKind.wrap .i64 ((IntKind.wrap .i64 ((IntKind.wrap .i64 ((IntKind.wrap .i64 (x2 + (1 : Int))) + (1 : Int))) + (1 : Int))) + (1 : Int))) + (1 : Int))) + (1 : Int))) + (1 : Int))) + (1 : Int))) + (1 : Int))), ((IntKind.wrap .i64 (x3 + (1 : Int))), ()))))
 else
 none
 else
 none
 else
 none
 else
 none
 else
 none
 else
 none
 else
 none
 else
 none
 else
 none
 else
 none
 else
 none
 else
 none
 else
 none
 else
 none
 else
 none
 else
 none
 else
 none
 else
 none
 else
 none
 else
 none
 else
 some (.inr (.inr (x2, ())))
abbrev wf (x0 : (List Entry)) (x1 : Int) : Prop := wfA [(.val (.sl 0 zk3) .f), (.val (.int .i64) .f)] (x0, (x1, ()))
noncomputable def raw (x0 : (List Entry)) (x1 : Int) : Option zt28 :=
 if (laws_heldEntryS.pre2 (x0, (x1, ((0 : Int), ())))) = true then
  match (laws_heldEntryS.fn2 (x0, (x1, ((0 : Int), ())))) with
  | .inl y =>
   some ((), y)
  | .inr y =>
   some ((), y)
 else
  none
theorem ok2 (x1 : List Entry) (x2 x3 : Int) (hp : pre2 (x1, (x2, (x3, ()))) = true) : Rounds pre2 mu2 fn2 (x1, (x2, (x3, ()))) (raw2 x1 x2 x3) := by
 simp only [pre2, Bool.and_eq_true, decide_eq_true_eq] at hp
 obtain ⟨h1, h2, h3, h4, h5⟩ := hp
 unfold raw2
 by_cases hlt : x3 < (x1.length : Int)
 · have hn : x3.toNat < x1.length := by omega
   have e1 := List.drop_eq_getElem_cons hn
   have e2 : x1.length - x3.toNat = (x1.length - (x3.toNat + 1)) + 1 := by omega
   have w1 : IntKind.wrap .i64 (x2 + 1) = x2 + 1 := w64 (by omega) (by omega)
   have w2 : IntKind.wrap .i64 (x2 + 1 + 1) = x2 + 1 + 1 := w64 (by omega) (by omega)
   have w3 : IntKind.wrap .i64 (x2 + 1 + 1 + 1) = x2 + 1 + 1 + 1 := w64 (by omega) (by omega)
   have w4 : IntKind.wrap .i64 (x2 + 1 + 1 + 1 + 1) = x2 + 1 + 1 + 1 + 1 := w64 (by omega) (by omega)
   have w5 : IntKind.wrap .i64 (x2 + 1 + 1 + 1 + 1 + 1) = x2 + 1 + 1 + 1 + 1 + 1 := w64 (by omega) (by omega)
   have w6 : IntKind.wrap .i64 (x2 + 1 + 1 + 1 + 1 + 1 + 1) = x2 + 1 + 1 + 1 + 1 + 1 + 1 := w64 (by omega) (by omega)
   have w7 : IntKind.wrap .i64 (x2 + 1 + 1 + 1 + 1 + 1 + 1 + 1) = x2 + 1 + 1 + 1 + 1 + 1 + 1 + 1 := w64 (by omega) (by omega)
   have w8 : IntKind.wrap .i64 (x2 + 1 + 1 + 1 + 1 + 1 + 1 + 1 + 1) = x2 + 1 + 1 + 1 + 1 + 1 + 1 + 1 + 1 := w64 (by omega) (by omega)
   have w9 : IntKind.wrap .i64 (x2 + 1 + 1 + 1 + 1 + 1 + 1 + 1 + 1 + 1) = x2 + 1 + 1 + 1 + 1 + 1 + 1 + 1 + 1 + 1 := w64 (by omega) (by omega)
   have p7 : laws_markText.pre (x2 + 1 + 1 + 1 + 1 + 1 + 1 + 1) = true := by simp only [laws_markText.pre, decide_eq_true_eq]; omega
   have p8 : laws_markText.pre (x2 + 1 + 1 + 1 + 1 + 1 + 1 + 1 + 1) = true := by simp only [laws_markText.pre, decide_eq_true_eq]; omega
   simp only [hlt, h2, decide_true, if_true, w1, w2, w3, w4, w5, w6, w7, w8, w9, p7, p8, w64 (n := x3 + 1) (by omega) (by omega), getD_get hn]
   generalize x1[x3.toNat] = e at e1
   have good : e = mE x2 → Rounds pre2 mu2 fn2 (x1, (x2, (x3, ()))) (some (.inl (x1, (x2 + 1 + 1 + 1 + 1 + 1 + 1 + 1 + 1 + 1, (x3 + 1, ()))))) := by
    intro he
    simp only [Rounds]
    refine ⟨?_, by simp only [mu2]; omega, ?_⟩
    · simp only [pre2, Bool.and_eq_true, decide_eq_true_eq]
      omega
    · have hi : x1.drop (x3 + 1).toNat = markEL (x1.length - (x3 + 1).toNat) (x2 + 1 + 1 + 1 + 1 + 1 + 1 + 1 + 1 + 1) ↔ x1.drop x3.toNat = markEL (x1.length - x3.toNat) x2 := by
       rw [show (x3 + 1).toNat = x3.toNat + 1 by omega, e1, e2, markEL, he, List.cons.injEq]; simp
      simp only [fn2]
      by_cases hc : x1.drop x3.toNat = markEL (x1.length - x3.toNat) x2
      · rw [if_pos hc, if_pos (hi.2 hc)]
        congr 2 <;> omega
      · rw [if_neg hc, if_neg (fun h => hc (hi.1 h))]
   have bad : ¬ e = mE x2 → Rounds pre2 mu2 fn2 (x1, (x2, (x3, ()))) (some (.inr (.inl (-1, ())))) := by
    intro he
    simp only [Rounds, fn2]
    rw [if_neg]
    rw [e1, e2, markEL, List.cons.injEq]
    exact fun h => he h.1
   obtain ⟨t, ⟨a1, a2, a3, a4, a5, a6, a7, a8, _⟩, _⟩ := e
   simp only [Bool.not_eq_true', decide_eq_false_iff_not, beq_eq_false_iff_ne, ne_eq]
   by_cases c0 : t = x2
   case neg => rw [if_pos c0]; exact bad fun h => c0 (congrArg (fun e : Entry => e.1) h)
   rw [if_neg (by simp [c0])]
   by_cases c1 : a1 = x2 + 1
   case neg => rw [if_pos c1]; exact bad fun h => c1 (congrArg (fun e : Entry => e.2.1.1) h)
   rw [if_neg (by simp [c1])]
   by_cases c2 : a2 = x2 + 1 + 1
   case neg => rw [if_pos c2]; exact bad fun h => c2 (congrArg (fun e : Entry => e.2.1.2.1) h)
   rw [if_neg (by simp [c2])]
   by_cases c3 : a3 = x2 + 1 + 1 + 1
   case neg => rw [if_pos c3]; exact bad fun h => c3 (congrArg (fun e : Entry => e.2.1.2.2.1) h)
   rw [if_neg (by simp [c3])]
   by_cases c4 : a4 = x2 + 1 + 1 + 1 + 1
   case neg => rw [if_pos c4]; exact bad fun h => c4 (congrArg (fun e : Entry => e.2.1.2.2.2.1) h)
   rw [if_neg (by simp [c4])]
   by_cases c5 : a5 = x2 + 1 + 1 + 1 + 1 + 1
   case neg => rw [if_pos c5]; exact bad fun h => c5 (congrArg (fun e : Entry => e.2.1.2.2.2.2.1) h)
   rw [if_neg (by simp [c5])]
   by_cases c6 : a6 = x2 + 1 + 1 + 1 + 1 + 1 + 1
   case neg => rw [if_pos c6]; exact bad fun h => c6 (congrArg (fun e : Entry => e.2.1.2.2.2.2.2.1) h)
   rw [if_neg (by simp [c6])]
   by_cases c7 : a7 = laws_markText (x2 + 1 + 1 + 1 + 1 + 1 + 1 + 1)
   case neg => rw [if_pos c7]; exact bad fun h => c7 (congrArg (fun e : Entry => e.2.1.2.2.2.2.2.2.1) h)
   rw [if_neg (by simp [c7])]
   by_cases c8 : a8 = laws_markText (x2 + 1 + 1 + 1 + 1 + 1 + 1 + 1 + 1)
   case neg => rw [if_pos c8]; exact bad fun h => c8 (congrArg (fun e : Entry => e.2.1.2.2.2.2.2.2.2.1) h)
   rw [if_neg (by simp [c8])]
   exact good (by subst c0; subst c1; subst c2; subst c3; subst c4; subst c5; subst c6; subst c7; subst c8; rfl)
 · simp only [hlt, decide_false, Bool.false_eq_true, if_false, Rounds, fn2]
   rw [List.drop_eq_nil_of_le (by omega), show x1.length - x3.toNat = 0 by omega, markEL, if_pos rfl]
   congr 2 <;> omega
theorem eq (x0 : List Entry) (x1 : Int) (_ : wf x0 x1) (hp : pre x0 x1 = true) : raw x0 x1 = some ((), (laws_heldEntryS x0 x1, ())) := by
 simp only [pre, laws_markEntryS.pre, Bool.and_eq_true, decide_eq_true_eq, small_iff] at hp
 unfold raw laws_heldEntryS
 rw [if_pos (show pre2 _ = true by simp only [pre2, Bool.and_eq_true, decide_eq_true_eq]; simp; omega)]
 by_cases he : x0 = markEL x0.length x1
 · have hf : fn2 (x0, (x1, ((0 : Int), ()))) = .inr (x1 + 9 * ((x0.length : Int) - 0), ()) := if_pos he
   rw [hf, if_pos he]
   simp
 · have hf : fn2 (x0, (x1, ((0 : Int), ()))) = .inl (-1, ()) := if_neg he
   rw [hf, if_neg he]
end laws_heldEntryS
noncomputable def laws_heldLog (x : Log) (k : Int) : Int := let r := laws_heldEntryS x.2.2.1 k; if r < 0 then -1 else r
namespace laws_heldLog
def pre (x : Log) (k : Int) : Bool := laws_markEntryS.pre x.2.2.1 k
abbrev wf (x0 : Log) (x1 : Int) : Prop := wfA [(.val zk21 .f), (.val (.int .i64) .f)] (x0, (x1, ()))
noncomputable def raw (x0 : Log) (x1 : Int) : Option zt28 :=
 if (laws_heldEntryS.pre x0.2.2.1 x1) = true then
 if (decide ((laws_heldEntryS x0.2.2.1 x1) < (0 : Int))) = true then
 some ((), ((-1 : Int), ()))
 else
 some ((), ((laws_heldEntryS x0.2.2.1 x1), ()))
 else
 none
theorem eq (x0 : Log) (x1 : Int) (_ : wf x0 x1) (hp : pre x0 x1 = true) : raw x0 x1 = some ((), (laws_heldLog x0 x1, ())) := by
 unfold raw laws_heldLog
 rw [if_pos (show laws_heldEntryS.pre _ _ = true from hp)]
 simp only [decide_eq_true_eq]
 split <;> rfl
end laws_heldLog
section
variable {α : Type}
def idxF (g : α → Bool) : List α → Int → Int
 | [], _ => -1
 | a :: r, i => if g a = true then i else idxF g r (i + 1)
theorem idxF_lo (g : α → Bool) : (xs : List α) → (i : Int) → 0 ≤ i → -1 ≤ idxF g xs i ∧ (0 ≤ idxF g xs i ↔ xs.any g = true)
 | [], i, h => by simp [idxF]
 | a :: r, i, h => by
  simp only [idxF, List.any_cons]
  by_cases ha : g a = true
  · simp [ha]; omega
  · have := idxF_lo g r (i + 1) (by omega)
    simp only [Bool.not_eq_true] at ha
    simp only [ha, Bool.false_eq_true, if_false, Bool.false_or]
    exact this
abbrev IxS (α : Type) := List α × ((α → Bool) × ((α → Bool) × (Int × (Int × Unit))))
def ixPre : IxS α → Bool := fun s => decide (s.1.length ≤ maxLen) && (decide (s.2.2.2.1 = (s.1.length : Int)) && (decide (0 ≤ s.2.2.2.2.1) && (decide (s.2.2.2.2.1.toNat ≤ s.1.length) && s.1.all s.2.1)))
def ixFn : IxS α → (Int × Unit) ⊕ Unit := fun s => if idxF s.2.2.1 (s.1.drop s.2.2.2.2.1.toNat) s.2.2.2.2.1 < 0 then .inr () else .inl (idxF s.2.2.1 (s.1.drop s.2.2.2.2.1.toNat) s.2.2.2.2.1, ())
def ixMu : IxS α → Nat := fun s => s.1.length - s.2.2.2.2.1.toNat
theorem ix_next {x1 : List α} {x2 x3 : α → Bool} {x4 x5 : Int} (hp : ixPre (x1, (x2, (x3, (x4, (x5, ()))))) = true) (hlt : x5 < x4) (d : α) :
 0 ≤ x5 ∧ x5 < (x1.length : Int) ∧ x2 (x1.getD x5.toNat d) = true ∧ (x3 (x1.getD x5.toNat d) = true → Rounds ixPre ixMu ixFn (x1, (x2, (x3, (x4, (x5, ()))))) (some (.inr (.inl (x5, ()))))) ∧
  (¬ x3 (x1.getD x5.toNat d) = true → Rounds ixPre ixMu ixFn (x1, (x2, (x3, (x4, (x5, ()))))) (some (.inl (x1, (x2, (x3, (x4, (IntKind.wrap .i64 (x5 + 1), ())))))))) := by
 simp only [ixPre, Bool.and_eq_true, decide_eq_true_eq] at hp
 obtain ⟨h1, rfl, h3, h4, h5⟩ := hp
 have hM := maxLen_eq
 have hn : x5.toNat < x1.length := by omega
 have e1 := List.drop_eq_getElem_cons hn
 rw [getD_get hn]
 refine ⟨h3, hlt, List.all_eq_true.1 h5 _ (List.getElem_mem hn), fun he => ?_, fun he => ?_⟩
 · simp only [Rounds, ixFn, e1, idxF, he, if_true]
   rw [if_neg (by omega)]
 · simp only [Rounds, w64 (n := x5 + 1) (by omega) (by omega)]
   refine ⟨?_, by simp only [ixMu]; omega, ?_⟩
   · simp only [ixPre, Bool.and_eq_true, decide_eq_true_eq]
     exact ⟨h1, trivial, by omega, by omega, h5⟩
   · simp only [ixFn, show (x5 + 1).toNat = x5.toNat + 1 by omega, e1, idxF, he, if_false]
     rfl
theorem ix_end {x1 : List α} {x2 x3 : α → Bool} {x4 x5 : Int} (hp : ixPre (x1, (x2, (x3, (x4, (x5, ()))))) = true) (hlt : ¬ x5 < x4) :
 Rounds ixPre ixMu ixFn (x1, (x2, (x3, (x4, (x5, ()))))) (some (.inr (.inr ()))) := by
 simp only [ixPre, Bool.and_eq_true, decide_eq_true_eq] at hp
 obtain ⟨h1, rfl, h3, h4, h5⟩ := hp
 simp only [Rounds, ixFn]
 rw [List.drop_eq_nil_of_le (by omega)]
 rfl
end
def slices_IndexFunc_Entry (xs : List Entry) (p : (Entry → Bool) × (Entry → Bool)) : Int := idxF p.2 xs 0
namespace slices_IndexFunc_Entry
def pre (xs : List Entry) (p : (Entry → Bool) × (Entry → Bool)) : Bool := xs.all p.1
def pre2 := ixPre (α := Entry)
def fn2 := ixFn (α := Entry)
def mu2 := ixMu (α := Entry)
noncomputable def raw2 (x1 : (List Entry)) (x2 : (Entry → Bool)) (x3 : (Entry → Bool)) (x4 : Int) (x5 : Int) : Option (((List Entry) × ((Entry → Bool) × ((Entry → Bool) × Mark))) ⊕ ((Int × Unit) ⊕ Unit)) :=
 if (decide (x5 < x4)) = true then
 if (decide ((0 : Int) ≤ x5)) = true then
 if (decide (x5 < ((List.length x1 : Nat) : Int))) = true then
 if (x2 (List.getD x1 (Int.toNat x5) zd15)) = true then
 if (x3 (List.getD x1 (Int.toNat x5) zd15)) = true then
 some (.inr (.inl (x5, ())))
 else
 some (.inl (x1, (x2, (x3, (x4, ((IntKind.wrap .i64 (x5 + (1 : Int))), ()))))))
 else
 none
 else
 none
 else
 none
 else
 some (.inr (.inr ()))
abbrev wf (x0 : (List Entry)) (x1 : ((Entry → Bool) × (Entry → Bool))) : Prop := wfA [(.val (.sl 0 zk3) .f), (.fn zk3 .bool)] (x0, (x1, ()))
noncomputable def raw (x0 : (List Entry)) (x1 : ((Entry → Bool) × (Entry → Bool))) : Option zt28 :=
 if (slices_IndexFunc_Entry.pre2 (x0, (x1.1, (x1.2, (((List.length x0 : Nat) : Int), ((0 : Int), ())))))) = true then
  match (slices_IndexFunc_Entry.fn2 (x0, (x1.1, (x1.2, (((List.length x0 : Nat) : Int), ((0 : Int), ())))))) with
  | .inl y =>
   some ((), y)
  | .inr y =>
   some ((), ((-1 : Int), ()))
 else
  none
theorem ok2 (x1 : List Entry) (x2 x3 : Entry → Bool) (x4 x5 : Int) (hp : pre2 (x1, (x2, (x3, (x4, (x5, ()))))) = true) : Rounds pre2 mu2 fn2 (x1, (x2, (x3, (x4, (x5, ()))))) (raw2 x1 x2 x3 x4 x5) := by
 unfold raw2
 by_cases hlt : x5 < x4
 · obtain ⟨h1, h2, h3, h4, h5⟩ := ix_next hp hlt E0
   simp only [hlt, h1, h2, h3, decide_true, if_true]
   split
   · rename_i h; exact h4 h
   · rename_i h; exact h5 h
 · simp only [hlt, decide_false, Bool.false_eq_true, if_false]
   exact ix_end hp hlt
theorem eq (x0 : List Entry) (x1 : (Entry → Bool) × (Entry → Bool)) (hw : wf x0 x1) (hp : pre x0 x1 = true) : raw x0 x1 = some ((), (slices_IndexFunc_Entry x0 x1, ())) := by
 have h1 : x0.length ≤ maxLen := hw.1.1
 unfold raw
 rw [if_pos (show pre2 _ = true by simp only [pre2, ixPre, Bool.and_eq_true, decide_eq_true_eq]; exact ⟨h1, trivial, by omega, by simp, hp⟩)]
 have hlo := (idxF_lo x1.2 x0 0 (by omega)).1
 by_cases h : idxF x1.2 x0 0 < 0
 · have hf : fn2 (x0, (x1.1, (x1.2, (((x0.length : Nat) : Int), ((0 : Int), ()))))) = .inr () := if_pos h
   rw [hf]
   show _ = some ((), (idxF x1.2 x0 0, ()))
   rw [show idxF x1.2 x0 0 = -1 by omega]
 · have hf : fn2 (x0, (x1.1, (x1.2, (((x0.length : Nat) : Int), ((0 : Int), ()))))) = .inl (idxF x1.2 x0 0, ()) := if_neg h
   rw [hf]; rfl
end slices_IndexFunc_Entry
def slices_ContainsFunc_Entry (xs : List Entry) (p : (Entry → Bool) × (Entry → Bool)) : Bool := xs.any p.2
namespace slices_ContainsFunc_Entry
def pre (xs : List Entry) (p : (Entry → Bool) × (Entry → Bool)) : Bool := xs.all p.1
abbrev wf (x0 : (List Entry)) (x1 : ((Entry → Bool) × (Entry → Bool))) : Prop := wfA [(.val (.sl 0 zk3) .f), (.fn zk3 .bool)] (x0, (x1, ()))
noncomputable def raw (x0 : (List Entry)) (x1 : ((Entry → Bool) × (Entry → Bool))) : Option zt17 :=
 if (slices_IndexFunc_Entry.pre x0 x1) = true then
 some ((), ((decide ((0 : Int) ≤ (slices_IndexFunc_Entry x0 x1))), ()))
 else
 none
theorem eq (x0 : List Entry) (x1 : (Entry → Bool) × (Entry → Bool)) (_ : wf x0 x1) (hp : pre x0 x1 = true) : raw x0 x1 = some ((), (slices_ContainsFunc_Entry x0 x1, ())) := by
 unfold raw slices_ContainsFunc_Entry slices_IndexFunc_Entry
 rw [if_pos (show slices_IndexFunc_Entry.pre _ _ = true from hp)]
 have h := (idxF_lo x1.2 x0 0 (by omega)).2
 by_cases ha : x0.any x1.2 = true
 · rw [ha, decide_eq_true (h.2 ha)]
 · have h0 : ¬ 0 ≤ idxF x1.2 x0 0 := fun hh => ha (h.1 hh)
   rw [decide_eq_false h0]
   simp only [Bool.not_eq_true] at ha
   rw [ha]
end slices_ContainsFunc_Entry
def eOk (t : Int) (e : Entry) : Bool := impl_within e.1 0 t && CmdOk e.2.1
def spec_l9List (xs : List Entry) (t : Int) : Bool := xs.all (eOk t) && decide (xs.length ≤ 40)
namespace spec_l9List
abbrev S := List Entry × (Int × (Int × Unit))
def pre2 : S → Bool := fun s => decide (s.1.length ≤ maxLen) && (decide (0 ≤ s.2.2.1) && decide (s.2.2.1.toNat ≤ s.1.length))
def fn2 : S → (Bool × Unit) ⊕ (List Entry × Unit) := fun s => if (s.1.drop s.2.2.1.toNat).all (eOk s.2.1) = true then .inr (s.1, ()) else .inl (false, ())
def mu2 : S → Nat := fun s => s.1.length - s.2.2.1.toNat
noncomputable def raw2 (x1 : (List Entry)) (x2 : Int) (x3 : Int) : Option (((List Entry) × Mark) ⊕ ((Bool × Unit) ⊕ ((List Entry) × Unit))) :=
 if (decide (x3 < ((List.length x1 : Nat) : Int))) = true then
 if (decide ((0 : Int) ≤ x3)) = true then
 if (decide (x3 < ((List.length x1 : Nat) : Int))) = true then
 if (!(impl_within (List.getD x1 (Int.toNat x3) zd15).1 (0 : Int) x2)) = true then
 some (.inr (.inl (false, ())))
 else
 if (decide ((0 : Int) ≤ x3)) = true then
 if (decide (x3 < ((List.length x1 : Nat) : Int))) = true then
 if (!(CmdOk (List.getD x1 (Int.toNat x3) zd15).2.1)) = true then
 some (.inr (.inl (false, ())))
 else
 some (.inl (x1, (x2, ((IntKind.wrap .i64 (x3 + (1 : Int))), ()))))
 else
 none
 else
 none
 else
 none
 else
 none
 else
 some (.inr (.inr (x1, ())))
abbrev wf (x0 : (List Entry)) (x1 : Int) : Prop := wfA [(.val (.sl 0 zk3) .f), (.val (.int .i64) .f)] (x0, (x1, ()))
noncomputable def raw (x0 : (List Entry)) (x1 : Int) : Option zt17 :=
 if (spec_l9List.pre2 (x0, (x1, ((0 : Int), ())))) = true then
  match (spec_l9List.fn2 (x0, (x1, ((0 : Int), ())))) with
  | .inl y =>
   some ((), y)
  | .inr y =>
   some ((), ((decide (((List.length y.1 : Nat) : Int) ≤ (40 : Int))), ()))
 else
  none
theorem ok2 (x1 : List Entry) (x2 x3 : Int) (hp : pre2 (x1, (x2, (x3, ()))) = true) : Rounds pre2 mu2 fn2 (x1, (x2, (x3, ()))) (raw2 x1 x2 x3) := by
 simp only [pre2, Bool.and_eq_true, decide_eq_true_eq] at hp
 obtain ⟨h1, h2, h3⟩ := hp
 have hM := maxLen_eq
 unfold raw2
 by_cases hlt : x3 < (x1.length : Int)
 · have hn : x3.toNat < x1.length := by omega
   have e1 := List.drop_eq_getElem_cons hn
   simp only [hlt, h2, decide_true, if_true, getD_get hn]
   cases ha : impl_within (x1[x3.toNat]).1 0 x2 with
   | false => simp only [Rounds, fn2, e1, List.all_cons, eOk, ha, Bool.false_and, Bool.not_false, Bool.false_eq_true, if_true, if_false]
   | true =>
    cases hb : CmdOk (x1[x3.toNat]).2.1 with
    | false => simp only [Rounds, fn2, e1, List.all_cons, eOk, ha, hb, Bool.true_and, Bool.false_and, Bool.not_false, Bool.not_true, Bool.false_eq_true, if_true, if_false]
    | true =>
     simp only [Bool.not_true, Bool.false_eq_true, if_false, Rounds, w64 (n := x3 + 1) (by omega) (by omega)]
     refine ⟨?_, by simp only [mu2]; omega, ?_⟩
     · simp only [pre2, Bool.and_eq_true, decide_eq_true_eq]
       exact ⟨h1, by omega, by omega⟩
     · simp only [fn2, show (x3 + 1).toNat = x3.toNat + 1 by omega, e1, List.all_cons]
       rw [show eOk x2 x1[x3.toNat] = true by simp [eOk, ha, hb], Bool.true_and]
 · simp only [hlt, decide_false, Bool.false_eq_true, if_false, Rounds, fn2]
   rw [List.drop_eq_nil_of_le (by omega)]
   rfl
theorem eq (x0 : List Entry) (x1 : Int) (hw : wf x0 x1) : raw x0 x1 = some ((), (spec_l9List x0 x1, ())) := by
 have h1 : x0.length ≤ maxLen := hw.1.1
 unfold raw spec_l9List
 rw [if_pos (show pre2 _ = true by simp [pre2, h1])]
 by_cases ha : x0.all (eOk x1) = true
 · have hf : fn2 (x0, (x1, ((0 : Int), ()))) = .inr (x0, ()) := if_pos ha
   rw [hf, ha]
   by_cases hl : x0.length ≤ 40
   · simp [hl]; omega
   · simp [hl]; omega
 · have hf : fn2 (x0, (x1, ((0 : Int), ()))) = .inl (false, ()) := if_neg ha
   rw [hf]
   simp only [Bool.not_eq_true] at ha
   simp [ha]
end spec_l9List
theorem any_not {α : Type} (f : α → Bool) (xs : List α) : xs.any (fun x => !f x) = !xs.all f := by
 induction xs with
 | nil => rfl
 | cons a r ih => simp [ih, Bool.not_and]
def impl_RpcOk_1 (e : Entry) (r : Rpc) : Bool := !eOk r.2.2.2.1 e
namespace impl_RpcOk_1
abbrev wf (x0 : Entry) (x1 : zt4) : Prop := wfA [(.val zk3 .f), (.peek zk8)] (x0, (x1, ()))
noncomputable def raw (x0 : Entry) (x1 : zt4) : Option zt17 :=
 if (!(impl_within x0.1 (0 : Int) x1.2.2.2.1)) = true then
 some ((), (true, ()))
 else
 some ((), ((!(CmdOk x0.2.1)), ()))
theorem eq (x0 : Entry) (x1 : Rpc) (_ : wf x0 x1) : raw x0 x1 = some ((), (impl_RpcOk_1 x0 x1, ())) := by
 unfold raw impl_RpcOk_1 eOk
 cases impl_within x0.1 0 x1.2.2.2.1 <;> simp
end impl_RpcOk_1
def RpcOk (r : Rpc) (size : Int) : Bool :=
 impl_within r.1 1 5 && (impl_within size 1 5 && (impl_within r.2.1 0 (size - 1) && (impl_within r.2.2.1 0 (size - 1) && (!decide (r.2.1 = r.2.2.1) && (impl_within r.2.2.2.1 0 300 && (impl_within r.2.2.2.2.1 0 300 && (impl_within r.2.2.2.2.2.1 0 300 && (impl_within r.2.2.2.2.2.2.1 0 300 && (spec_l9List r.2.2.2.2.2.2.2.1 r.2.2.2.1 && decide ((r.2.2.2.2.2.2.2.2.2.1.length : Int) ≤ 30000))))))))))
abbrev impl_RpcOk := RpcOk
abbrev spec_RpcOk := RpcOk
theorem within_hi {n lo hi : Int} (h : impl_within n lo hi = true) : lo ≤ n ∧ n ≤ hi := by
 simpa [impl_within] using h
namespace impl_RpcOk
abbrev wf (x0 : zt4) (x1 : Int) : Prop := wfA [(.val zk8 .f), (.val (.int .i64) .f)] (x0, (x1, ()))
noncomputable def raw (x0 : zt4) (x1 : Int) : Option zt17 :=
 if (!(impl_within x1 (1 : Int) (5 : Int))) = true then
 some ((), (false, ()))
 else
 if (!(impl_within x0.1 (1 : Int) (5 : Int))) = true then
 some ((), (false, ()))
 else
 if (!(impl_within x0.2.1 (0 : Int) (IntKind.wrap .i64 (x1 - (1 : Int))))) = true then
 some ((), (false, ()))
 else
 if (!(impl_within x0.2.2.1 (0 : Int) (IntKind.wrap .i64 (x1 - (1 : Int))))) = true then
 some ((), (false, ()))
 else
 if (decide (x0.2.1 = x0.2.2.1)) = true then
 some ((), (false, ()))
 else
 if (!(impl_within x0.2.2.2.1 (0 : Int) (300 : Int))) = true then
 some ((), (false, ()))
 else
 if (!(impl_within x0.2.2.2.2.1 (0 : Int) (300 : Int))) = true then
 some ((), (false, ()))
 else
 if (!(impl_within x0.2.2.2.2.2.1 (0 : Int) (300 : Int))) = true then
 some ((), (false, ()))
 else
 if (!(impl_within x0.2.2.2.2.2.2.1 (0 : Int) (300 : Int))) = true then
 some ((), (false, ()))
 else
 if (decide ((40 : Int) < ((List.length x0.2.2.2.2.2.2.2.1 : Nat) : Int))) = true then
 some ((), (false, ()))
 else
 if (decide ((30000 : Int) < ((List.length x0.2.2.2.2.2.2.2.2.2.1 : Nat) : Int))) = true then
 some ((), (false, ()))
 else
 if (slices_ContainsFunc_Entry.pre x0.2.2.2.2.2.2.2.1 ((fun x => true), (fun x => (impl_RpcOk_1 x x0)))) = true then
 some ((), ((!(slices_ContainsFunc_Entry x0.2.2.2.2.2.2.2.1 ((fun x => true), (fun x => (impl_RpcOk_1 x x0))))), ()))
 else
 none
theorem eq (x0 : Rpc) (x1 : Int) (_ : wf x0 x1) : raw x0 x1 = some ((), (impl_RpcOk x0 x1, ())) := by
 unfold raw impl_RpcOk RpcOk spec_l9List
 cases hs : impl_within x1 1 5
 · simp
 have h := within_hi hs
 rw [w64 (n := x1 - 1) (by omega) (by omega)]
 cases impl_within x0.1 1 5
 · simp
 cases impl_within x0.2.1 0 (x1 - 1)
 · simp
 cases impl_within x0.2.2.1 0 (x1 - 1)
 · simp
 by_cases he : x0.2.1 = x0.2.2.1
 · simp [he]
 simp only [he, decide_false, Bool.not_true, Bool.not_false, Bool.false_eq_true, if_false, Bool.true_and]
 cases impl_within x0.2.2.2.1 0 300
 · simp
 cases impl_within x0.2.2.2.2.1 0 300
 · simp
 cases impl_within x0.2.2.2.2.2.1 0 300
 · simp
 cases impl_within x0.2.2.2.2.2.2.1 0 300
 · simp
 by_cases hl : (x0.2.2.2.2.2.2.2.1.length : Int) ≤ 40
 case neg =>
  have hl' : (40 : Int) < (x0.2.2.2.2.2.2.2.1.length : Int) := by omega
  have hl2 : ¬ x0.2.2.2.2.2.2.2.1.length ≤ 40 := by omega
  simp [hl', hl2]
 have hl' : ¬ (40 : Int) < (x0.2.2.2.2.2.2.2.1.length : Int) := by omega
 have hl2 : x0.2.2.2.2.2.2.2.1.length ≤ 40 := by omega
 by_cases hs : (x0.2.2.2.2.2.2.2.2.2.1.length : Int) ≤ 30000
 case neg =>
  have hs' : (30000 : Int) < (x0.2.2.2.2.2.2.2.2.2.1.length : Int) := by omega
  simp [hs, hs', hl']
 have hs' : ¬ (30000 : Int) < (x0.2.2.2.2.2.2.2.2.2.1.length : Int) := by omega
 have hpre : slices_ContainsFunc_Entry.pre x0.2.2.2.2.2.2.2.1 ((fun _ => true), (fun x => impl_RpcOk_1 x x0)) = true := by simp [slices_ContainsFunc_Entry.pre]
 have hany : slices_ContainsFunc_Entry x0.2.2.2.2.2.2.2.1 ((fun _ => true), (fun x => impl_RpcOk_1 x x0)) = !x0.2.2.2.2.2.2.2.1.all (eOk x0.2.2.2.1) := any_not (eOk x0.2.2.2.1) _
 simp only [hl', hs', hs, hl2, hpre, hany, decide_true, decide_false, Bool.not_true, Bool.not_not, Bool.false_eq_true, if_false, if_true, Bool.true_and, Bool.and_true]
end impl_RpcOk
section
variable {α : Type}
theorem getD_modify {xs : List α} {i : Nat} {f : α → α} {d : α} (h : i < xs.length) : (xs.modify i f).getD i d = f (xs.getD i d) := by
 rw [getD_get (by rw [List.length_modify]; exact h), getD_get h, List.getElem_modify, if_pos rfl]
def cntL (g : α → Int) : List α → Int
 | [] => 0
 | a :: r => g a + cntL g r
def mkL (m : α → Int → α) (g : α → Int) : List α → Int → List α
 | [], _ => []
 | a :: r, k => m a k :: mkL m g r (k + g a)
structure MkOk (m : α → Int → α) (g : α → Int) : Prop where
 pos : ∀ x, 1 ≤ g x
 keep : ∀ x k, g (m x k) = g x
 idem : ∀ x k, m (m x k) k = m x k
theorem cntL_len {m : α → Int → α} {g : α → Int} (ok : MkOk m g) : (xs : List α) → (xs.length : Int) ≤ cntL g xs
 | [] => by simp [cntL]
 | a :: r => by
  have := ok.pos a
  have := cntL_len ok r
  simp only [cntL, List.length_cons]; omega
theorem cntL_nn {m : α → Int → α} {g : α → Int} (ok : MkOk m g) (xs : List α) : 0 ≤ cntL g xs := by
 have := cntL_len ok xs
 omega
theorem cntL_mkL {m : α → Int → α} {g : α → Int} (ok : MkOk m g) : (xs : List α) → (k : Int) → cntL g (mkL m g xs k) = cntL g xs
 | [], _ => rfl
 | a :: r, k => by simp only [mkL, cntL, ok.keep, cntL_mkL ok r]
theorem mkL_mkL {m : α → Int → α} {g : α → Int} (ok : MkOk m g) : (xs : List α) → (k : Int) → mkL m g (mkL m g xs k) k = mkL m g xs k
 | [], _ => rfl
 | a :: r, k => by simp only [mkL, ok.keep, ok.idem, mkL_mkL ok r]
abbrev MkS (α : Type) := Int × (Int × (List α × Unit))
def mkPre (g : α → Int) : MkS α → Bool := fun s => decide (0 ≤ s.1) && (decide (0 ≤ s.2.1) && (decide (s.2.1.toNat ≤ s.2.2.1.length) && (decide (s.2.2.1.length ≤ 134217728) && decide (s.1 + cntL g (s.2.2.1.drop s.2.1.toNat) ≤ 134217728))))
def mkFn (m : α → Int → α) (g : α → Int) : MkS α → Int × (List α × Unit) := fun s => (s.1 + cntL g (s.2.2.1.drop s.2.1.toNat), (s.2.2.1.take s.2.1.toNat ++ mkL m g (s.2.2.1.drop s.2.1.toNat) s.1, ()))
def mkMu : MkS α → Nat := fun s => s.2.2.1.length - s.2.1.toNat
theorem mk_facts {m : α → Int → α} {g : α → Int} (ok : MkOk m g) {k i : Int} {xs : List α} (hp : mkPre g (k, (i, (xs, ()))) = true) (hlt : i < (xs.length : Int)) (d : α) :
 0 ≤ i ∧ 0 ≤ k ∧ k + g (xs.getD i.toNat d) ≤ 134217728 ∧ i.toNat < xs.length := by
 simp only [mkPre, Bool.and_eq_true, decide_eq_true_eq] at hp
 obtain ⟨h1, h2, h3, h4, h5⟩ := hp
 have hn : i.toNat < xs.length := by omega
 rw [getD_get hn]
 rw [List.drop_eq_getElem_cons hn] at h5
 have := cntL_nn ok (xs.drop (i.toNat + 1))
 simp only [cntL] at h5
 exact ⟨h2, h1, by omega, hn⟩
theorem mk_step {m : α → Int → α} {g : α → Int} (ok : MkOk m g) {k i : Int} {xs : List α} (hp : mkPre g (k, (i, (xs, ()))) = true) (hlt : i < (xs.length : Int)) (d : α)
 {K : Int} {f : α → α} (hK : K = k + g (xs.getD i.toNat d)) (hf : f (xs.getD i.toNat d) = m (xs.getD i.toNat d) k) :
 Rounds (mkPre g) mkMu (mkFn m g) (k, (i, (xs, ()))) (some (.inl (K, (IntKind.wrap .i64 (i + 1), (xs.modify i.toNat f, ()))))) := by
 have hfa := mk_facts ok hp hlt d
 simp only [mkPre, Bool.and_eq_true, decide_eq_true_eq] at hp
 obtain ⟨h1, h2, h3, h4, h5⟩ := hp
 have hn : i.toNat < xs.length := by omega
 rw [getD_get hn] at *
 have hpos := ok.pos xs[i.toNat]
 have hd : (xs.modify i.toNat f).drop (i.toNat + 1) = xs.drop (i.toNat + 1) := by
  rw [List.drop_modify_of_lt]; omega
 have ht : (xs.modify i.toNat f).take (i.toNat + 1) = xs.take i.toNat ++ [m xs[i.toNat] k] := by
  rw [List.take_add_one, List.getElem?_eq_getElem (by rw [List.length_modify]; exact hn), List.getElem_modify, if_pos rfl, hf]
  congr 1
  apply List.ext_getElem?
  intro j
  rw [List.getElem?_take, List.getElem?_take]
  split
  · rw [List.getElem?_modify]
    have hne : ¬ i.toNat = j := by omega
    simp only [hne, if_false]
    cases xs[j]? <;> rfl
  · rfl
 rw [List.drop_eq_getElem_cons hn] at h5
 simp only [cntL] at h5
 simp only [Rounds, w64 (n := i + 1) (by omega) (by omega)]
 have ei : (i + 1).toNat = i.toNat + 1 := by omega
 refine ⟨?_, by simp only [mkMu, List.length_modify]; omega, ?_⟩
 · simp only [mkPre, Bool.and_eq_true, decide_eq_true_eq, List.length_modify, ei, hd]
   omega
 · simp only [mkFn, ei, hd, ht]
   conv => rhs; rw [List.drop_eq_getElem_cons hn]
   simp only [cntL, mkL, hK, List.append_assoc, List.cons_append, List.nil_append, Int.add_assoc]
theorem mk_end {m : α → Int → α} {g : α → Int} {k i : Int} {xs : List α} (hp : mkPre g (k, (i, (xs, ()))) = true) (hlt : ¬ i < (xs.length : Int)) :
 Rounds (mkPre g) mkMu (mkFn m g) (k, (i, (xs, ()))) (some (.inr (k, (xs, ())))) := by
 simp only [mkPre, Bool.and_eq_true, decide_eq_true_eq] at hp
 obtain ⟨h1, h2, h3, h4, h5⟩ := hp
 simp only [Rounds, mkFn]
 rw [List.drop_eq_nil_of_le (by omega), List.take_of_length_le (by omega)]
 simp [cntL, mkL]
def mPre (g : α → Int) (xs : List α) (k : Int) : Bool := decide (0 ≤ k) && decide (k + cntL g xs ≤ 134217728)
theorem mPre_iff {g : α → Int} {xs : List α} {k : Int} : mPre g xs k = true ↔ 0 ≤ k ∧ k + cntL g xs ≤ 134217728 := by simp [mPre]
theorem mk_start {m : α → Int → α} {g : α → Int} (ok : MkOk m g) {xs : List α} {k : Int} (h : mPre g xs k = true) : mkPre g (k, ((0 : Int), (xs, ()))) = true := by
 rw [mPre_iff] at h
 have := cntL_len ok xs
 simp only [mkPre, Bool.and_eq_true, decide_eq_true_eq, Int.toNat_zero, List.drop_zero]
 omega
noncomputable def heldN (m : α → Int → α) (g : α → Int) (x : α) (k : Int) : Int := cond (same x (m x k)) (k + g x) (-1)
theorem heldN_pos {m : α → Int → α} {g : α → Int} {x : α} {k : Int} (h : x = m x k) : heldN m g x k = k + g x := by
 rw [heldN, same_true.2 h]; rfl
theorem heldN_neg {m : α → Int → α} {g : α → Int} {x : α} {k : Int} (h : ¬ x = m x k) : heldN m g x k = -1 := by
 rw [heldN, same_false.2 h]; rfl
theorem held_mk {m : α → Int → α} {g : α → Int} (h1 : ∀ x k, g (m x k) = g x) (h2 : ∀ x k, m (m x k) k = m x k) (x : α) (k : Int) : heldN m g (m x k) k = k + g x := by
 rw [heldN_pos (h2 x k).symm, h1]
abbrev HeS (α : Type) := List α × (Int × (Int × Unit))
def hePre (g : α → Int) : HeS α → Bool := fun s => decide (0 ≤ s.2.1) && (decide (0 ≤ s.2.2.1) && (decide (s.2.2.1.toNat ≤ s.1.length) && (decide (s.1.length ≤ 134217728) && decide (s.2.1 + cntL g (s.1.drop s.2.2.1.toNat) ≤ 134217728))))
noncomputable def heFn (m : α → Int → α) (g : α → Int) : HeS α → (Int × Unit) ⊕ (Int × Unit) := fun s =>
 cond (same (s.1.drop s.2.2.1.toNat) (mkL m g (s.1.drop s.2.2.1.toNat) s.2.1)) (.inr (s.2.1 + cntL g (s.1.drop s.2.2.1.toNat), ())) (.inl (-1, ()))
def heMu : HeS α → Nat := fun s => s.1.length - s.2.2.1.toNat
theorem he_facts {m : α → Int → α} {g : α → Int} (ok : MkOk m g) {k i : Int} {xs : List α} (hp : hePre g (xs, (k, (i, ()))) = true) (hlt : i < (xs.length : Int)) (d : α) :
 0 ≤ i ∧ 0 ≤ k ∧ k + g (xs.getD i.toNat d) ≤ 134217728 := by
 simp only [hePre, Bool.and_eq_true, decide_eq_true_eq] at hp
 obtain ⟨h1, h2, h3, h4, h5⟩ := hp
 have hn : i.toNat < xs.length := by omega
 rw [getD_get hn]
 rw [List.drop_eq_getElem_cons hn] at h5
 have := cntL_nn ok (xs.drop (i.toNat + 1))
 simp only [cntL] at h5
 exact ⟨h2, h1, by omega⟩
theorem he_good {m : α → Int → α} {g : α → Int} (ok : MkOk m g) {k i : Int} {xs : List α} (hp : hePre g (xs, (k, (i, ()))) = true) (hlt : i < (xs.length : Int)) (d : α)
 {K : Int} (hK : K = k + g (xs.getD i.toNat d)) (he : xs.getD i.toNat d = m (xs.getD i.toNat d) k) :
 Rounds (hePre g) heMu (heFn m g) (xs, (k, (i, ()))) (some (.inl (xs, (K, (IntKind.wrap .i64 (i + 1), ()))))) := by
 simp only [hePre, Bool.and_eq_true, decide_eq_true_eq] at hp
 obtain ⟨h1, h2, h3, h4, h5⟩ := hp
 have hn : i.toNat < xs.length := by omega
 rw [getD_get hn] at *
 have hpos := ok.pos xs[i.toNat]
 rw [List.drop_eq_getElem_cons hn] at h5
 simp only [cntL] at h5
 have ei : (i + 1).toNat = i.toNat + 1 := by omega
 simp only [Rounds, w64 (n := i + 1) (by omega) (by omega)]
 refine ⟨?_, by simp only [heMu]; omega, ?_⟩
 · simp only [hePre, Bool.and_eq_true, decide_eq_true_eq, ei]
   omega
 · simp only [heFn, ei]
   rw [List.drop_eq_getElem_cons hn]
   simp only [mkL, cntL]
   subst hK
   by_cases hc : xs.drop (i.toNat + 1) = mkL m g (xs.drop (i.toNat + 1)) (k + g xs[i.toNat])
   · rw [same_true.2 hc, same_true.2 (List.cons.injEq .. ▸ ⟨he, hc⟩), Int.add_assoc]
   · rw [same_false.2 hc, same_false.2 (fun h => hc (List.cons.inj h).2)]; rfl
theorem he_bad {m : α → Int → α} {g : α → Int} {k i : Int} {xs : List α} (hp : hePre g (xs, (k, (i, ()))) = true) (hlt : i < (xs.length : Int)) (d : α)
 (he : ¬ xs.getD i.toNat d = m (xs.getD i.toNat d) k) :
 Rounds (hePre g) heMu (heFn m g) (xs, (k, (i, ()))) (some (.inr (.inl (-1, ())))) := by
 simp only [hePre, Bool.and_eq_true, decide_eq_true_eq] at hp
 obtain ⟨h1, h2, h3, h4, h5⟩ := hp
 have hn : i.toNat < xs.length := by omega
 rw [getD_get hn] at he
 simp only [Rounds, heFn]
 rw [List.drop_eq_getElem_cons hn]
 simp only [mkL]
 rw [same_false.2 (fun h => he (List.cons.inj h).1)]
 rfl
theorem he_end {m : α → Int → α} {g : α → Int} {k i : Int} {xs : List α} (hp : hePre g (xs, (k, (i, ()))) = true) (hlt : ¬ i < (xs.length : Int)) :
 Rounds (hePre g) heMu (heFn m g) (xs, (k, (i, ()))) (some (.inr (.inr (k, ())))) := by
 simp only [hePre, Bool.and_eq_true, decide_eq_true_eq] at hp
 obtain ⟨h1, h2, h3, h4, h5⟩ := hp
 simp only [Rounds, heFn]
 rw [List.drop_eq_nil_of_le (by omega)]
 simp only [mkL, cntL, Int.add_zero]
 rw [same_self]
 rfl
theorem he_start {m : α → Int → α} {g : α → Int} (ok : MkOk m g) {xs : List α} {k : Int} (h : mPre g xs k = true) : hePre g (xs, (k, ((0 : Int), ()))) = true := by
 rw [mPre_iff] at h
 have := cntL_len ok xs
 simp only [hePre, Bool.and_eq_true, decide_eq_true_eq, Int.toNat_zero, List.drop_zero]
 omega
theorem heFn_start {m : α → Int → α} {g : α → Int} (xs : List α) (k : Int) :
 (match heFn m g (xs, (k, ((0 : Int), ()))) with | .inl y => some ((), y) | .inr y => some ((), y)) = some ((), (heldN (mkL m g) (cntL g) xs k, ())) := by
 have e : heFn m g (xs, (k, ((0 : Int), ()))) = cond (same xs (mkL m g xs k)) (.inr (k + cntL g xs, ())) (.inl (-1, ())) := rfl
 rw [e]
 by_cases h : xs = mkL m g xs k
 · rw [same_true.2 h, heldN_pos h]; rfl
 · rw [same_false.2 h, heldN_neg h]; rfl
end
def mk_Int (_ : Int) (k : Int) : Int := k
def mk_Byte (_ : Int) (k : Int) : Int := IntKind.wrap .u8 k
def cnt_Int (_ : Int) : Int := 1
def cnt_Byte (_ : Int) : Int := 1
theorem mk_Int_ok : MkOk mk_Int cnt_Int := ⟨fun _ => Int.le_refl _, fun _ _ => rfl, fun _ _ => rfl⟩
theorem mk_Byte_ok : MkOk mk_Byte cnt_Byte := ⟨fun _ => Int.le_refl _, fun _ _ => rfl, fun _ _ => rfl⟩
def cnt_Bool (_ : Bool) : Int := 1
def mk_Bool (_ : Bool) (k : Int) : Bool := decide (Int.tmod k 3 = 0)
theorem mk_Bool_ok : MkOk mk_Bool cnt_Bool := ⟨fun _ => Int.le_refl _, fun _ _ => rfl, fun _ _ => rfl⟩
noncomputable def laws_eqIntS (a b : List Int) : Bool := same a b
namespace laws_eqIntS
def pre4 := eqPre (α := Int)
noncomputable def fn4 := eqFn (α := Int)
def mu4 := eqMu (α := Int)
noncomputable def raw4 (x1 : (List Int)) (x2 : (List Int)) (x3 : Int) : Option (((List Int) × Disk) ⊕ ((Bool × Unit) ⊕ Unit)) :=
 if (decide (x3 < ((List.length x1 : Nat) : Int))) = true then
 if (decide ((0 : Int) ≤ x3)) = true then
 if (decide (x3 < ((List.length x1 : Nat) : Int))) = true then
 if (decide ((0 : Int) ≤ x3)) = true then
 if (decide (x3 < ((List.length x2 : Nat) : Int))) = true then
 if (!(decide ((List.getD x1 (Int.toNat x3) (0 : Int)) = (List.getD x2 (Int.toNat x3) (0 : Int))))) = true then
 some (.inr (.inl (false, ())))
 else
 some (.inl (x1, (x2, ((IntKind.wrap .i64 (x3 + (1 : Int))), ()))))
 else
 none
 else
 none
 else
 none
 else
 none
 else
 some (.inr (.inr ()))
abbrev wf (x0 : (List Int)) (x1 : (List Int)) : Prop := wfA [(.val (.sl 0 (.int .i64)) .f), (.val (.sl 0 (.int .i64)) .f)] (x0, (x1, ()))
noncomputable def raw (x0 : (List Int)) (x1 : (List Int)) : Option zt17 :=
 if (!(decide (((List.length x0 : Nat) : Int) = ((List.length x1 : Nat) : Int)))) = true then
  some ((), (false, ()))
 else
  if (laws_eqIntS.pre4 (x0, (x1, ((0 : Int), ())))) = true then
   letB (laws_eqIntS.fn4 (x0, (x1, ((0 : Int), ())))) fun v1 =>
   match v1 with
   | .inl y =>
    some ((), y)
   | .inr y =>
    some ((), (true, ()))
  else
   none
theorem ok4 (x1 x2 : List Int) (x3 : Int) (hp : pre4 (x1, (x2, (x3, ()))) = true) : Rounds pre4 mu4 fn4 (x1, (x2, (x3, ()))) (raw4 x1 x2 x3) := by
 unfold raw4
 by_cases hlt : x3 < (x1.length : Int)
 · obtain ⟨h1, h2, h3, h4⟩ := eq_next hp hlt (0 : Int)
   simp only [letB, hlt, h1, h2, decide_true, if_true]
   by_cases h : x1.getD x3.toNat (0 : Int) = x2.getD x3.toNat (0 : Int)
   · rw [if_neg (by simp only [h, decide_true, Bool.not_true, Bool.false_eq_true, not_false_eq_true])]; exact h3 h
   · rw [if_pos (by simp only [h, decide_false, Bool.not_false])]; exact h4 h
 · simp only [hlt, decide_false, Bool.false_eq_true, if_false]
   exact eq_end hp hlt
theorem eq (x0 x1 : List Int) (hw : wf x0 x1) : raw x0 x1 = some ((), (laws_eqIntS x0 x1, ())) := by
 have h1 : x0.length ≤ maxLen := hw.1.1
 unfold raw laws_eqIntS
 by_cases hl : (x0.length : Int) = (x1.length : Int)
 · rw [if_neg (by simp [hl]), if_pos (show pre4 _ = true from eq_start h1 hl)]
   unfold fn4
   by_cases he : x0 = x1
   · rw [eqFn_eq he, same_true.2 he]; rfl
   · rw [eqFn_ne he, same_false.2 he]; rfl
 · have : ¬ x0 = x1 := fun h => hl (by rw [h])
   rw [if_pos (by simp [hl]), same_false.2 this]
end laws_eqIntS
def laws_markIntS (xs : List Int) (k : Int) : List Int × Int := (mkL mk_Int cnt_Int xs k, k + cntL cnt_Int xs)
namespace laws_markIntS
def pre (xs : List Int) (k : Int) : Bool := mPre cnt_Int xs k
def pre2 := mkPre cnt_Int
def fn2 := mkFn mk_Int cnt_Int
def mu2 := mkMu (α := Int)
noncomputable def raw2 (x1 : Int) (x2 : Int) (x3 : (List Int)) : Option ((Int × (Int × zt32)) ⊕ (Int × zt32)) :=
 if (decide (x2 < ((List.length x3 : Nat) : Int))) = true then
 if (decide ((0 : Int) ≤ x2)) = true then
 if (decide (x2 < ((List.length x3 : Nat) : Int))) = true then
 some (.inl ((IntKind.wrap .i64 (x1 + (1 : Int))), ((IntKind.wrap .i64 (x2 + (1 : Int))), ((List.modify x3 (Int.toNat x2) (fun z => x1)), ()))))
 else
 none
 else
 none
 else
 some (.inr (x1, (x3, ())))
abbrev wf (x0 : (List Int)) (x1 : Int) : Prop := wfA [(.mut (.sl 0 (.int .i64))), (.val (.int .i64) .f)] (x0, (x1, ()))
noncomputable def raw (x0 : (List Int)) (x1 : Int) : Option (zt32 × (Int × Unit)) :=
 if (laws_markIntS.pre2 (x1, ((0 : Int), (x0, ())))) = true then
 letB (laws_markIntS.fn2 (x1, ((0 : Int), (x0, ())))) fun v1 =>
 some (v1.2, (v1.1, ()))
 else
 none
theorem ok2 (x1 x2 : Int) (x3 : List Int) (hp : pre2 (x1, (x2, (x3, ()))) = true) : Rounds pre2 mu2 fn2 (x1, (x2, (x3, ()))) (raw2 x1 x2 x3) := by
 unfold raw2
 by_cases hlt : x2 < (x3.length : Int)
 · obtain ⟨h0, hk, hc, hn⟩ := mk_facts mk_Int_ok hp hlt (0 : Int)
   generalize he : x3.getD x2.toNat (0 : Int) = e at hc
   simp only [cnt_Int] at hc
   have w0 : IntKind.wrap .i64 (x1 + 1) = x1 + 1 := w64 (by omega) (by omega)
   simp only [letB, List.length_modify, List.modify_modify_eq, getD_modify hn, Function.comp, hlt, h0, he, decide_true, if_true, w0]
   exact mk_step mk_Int_ok hp hlt (0 : Int) (by rw [he]; simp only [cnt_Int]) (by rw [he]; rfl)
 · rw [if_neg (by simp [hlt])]; exact mk_end hp hlt
theorem eq (x0 : List Int) (x1 : Int) (_ : wf x0 x1) (hp : pre x0 x1 = true) : raw x0 x1 = some (((laws_markIntS x0 x1).1, ()), ((laws_markIntS x0 x1).2, ())) := by
 unfold raw
 rw [if_pos (show pre2 _ = true from mk_start mk_Int_ok hp)]
 rfl
end laws_markIntS
theorem markIntS_eq (xs : List Int) (k : Int) : laws_markIntS xs k = (mkL mk_Int cnt_Int xs k, k + cntL cnt_Int xs) := rfl
theorem markIntS_pre {xs : List Int} {k : Int} (h0 : 0 ≤ k) (h1 : k + cntL cnt_Int xs ≤ 134217728) : laws_markIntS.pre xs k = true := mPre_iff.2 ⟨h0, h1⟩
noncomputable def laws_heldIntS (xs : List Int) (k : Int) : Int := heldN (mkL mk_Int cnt_Int) (cntL cnt_Int) xs k
namespace laws_heldIntS
def pre (xs : List Int) (k : Int) : Bool := mPre cnt_Int xs k
def pre2 := hePre cnt_Int
noncomputable def fn2 := heFn mk_Int cnt_Int
def mu2 := heMu (α := Int)
noncomputable def raw2 (x1 : (List Int)) (x2 : Int) (x3 : Int) : Option (((List Int) × Mark) ⊕ ((Int × Unit) ⊕ (Int × Unit))) :=
 if (decide (x3 < ((List.length x1 : Nat) : Int))) = true then
 if (decide ((0 : Int) ≤ x3)) = true then
 if (decide (x3 < ((List.length x1 : Nat) : Int))) = true then
 if (!(decide ((List.getD x1 (Int.toNat x3) (0 : Int)) = x2))) = true then
 some (.inr (.inl ((-1 : Int), ())))
 else
 some (.inl (x1, ((IntKind.wrap .i64 (x2 + (1 : Int))), ((IntKind.wrap .i64 (x3 + (1 : Int))), ()))))
 else
 none
 else
 none
 else
 some (.inr (.inr (x2, ())))
abbrev wf (x0 : (List Int)) (x1 : Int) : Prop := wfA [(.val (.sl 0 (.int .i64)) .f), (.val (.int .i64) .f)] (x0, (x1, ()))
noncomputable def raw (x0 : (List Int)) (x1 : Int) : Option zt28 :=
 if (laws_heldIntS.pre2 (x0, (x1, ((0 : Int), ())))) = true then
  letB (laws_heldIntS.fn2 (x0, (x1, ((0 : Int), ())))) fun v1 =>
  match v1 with
  | .inl y =>
   some ((), y)
  | .inr y =>
   some ((), y)
 else
  none
theorem ok2 (x1 : List Int) (x2 x3 : Int) (hp : pre2 (x1, (x2, (x3, ()))) = true) : Rounds pre2 mu2 fn2 (x1, (x2, (x3, ()))) (raw2 x1 x2 x3) := by
 unfold raw2
 by_cases hlt : x3 < (x1.length : Int)
 · obtain ⟨h0, hk, hc⟩ := he_facts mk_Int_ok hp hlt (0 : Int)
   have bad := he_bad (m := mk_Int) (g := cnt_Int) hp hlt (0 : Int)
   have good := fun K hK => he_good mk_Int_ok (K := K) hp hlt (0 : Int) hK
   generalize x1.getD x3.toNat (0 : Int) = e at *
   simp only [cnt_Int] at hc
   have w0 : IntKind.wrap .i64 (x2 + 1) = x2 + 1 := w64 (by omega) (by omega)
   simp only [letB, hlt, h0, decide_true, if_true, w0]
   by_cases c : e = x2
   case neg => rw [if_pos (by simp [c])]; exact bad c
   rw [if_neg (by simp [c])]
   exact good _ (by simp only [cnt_Int]) c
 · rw [if_neg (by simp [hlt])]; exact he_end hp hlt
theorem eq (x0 : List Int) (x1 : Int) (_ : wf x0 x1) (hp : pre x0 x1 = true) : raw x0 x1 = some ((), (laws_heldIntS x0 x1, ())) := by
 unfold raw
 rw [if_pos (show pre2 _ = true from he_start mk_Int_ok hp)]
 exact heFn_start x0 x1
end laws_heldIntS
theorem heldIntS_pos {xs : List Int} {k : Int} (h : xs = mkL mk_Int cnt_Int xs k) : laws_heldIntS xs k = k + cntL cnt_Int xs := heldN_pos h
theorem heldIntS_neg {xs : List Int} {k : Int} (h : ¬ xs = mkL mk_Int cnt_Int xs k) : laws_heldIntS xs k = -1 := heldN_neg h
theorem heldIntS_pre {xs : List Int} {k : Int} (h0 : 0 ≤ k) (h1 : k + cntL cnt_Int xs ≤ 134217728) : laws_heldIntS.pre xs k = true := mPre_iff.2 ⟨h0, h1⟩
noncomputable def laws_eqByteS (a b : List Int) : Bool := same a b
namespace laws_eqByteS
def pre4 := eqPre (α := Int)
noncomputable def fn4 := eqFn (α := Int)
def mu4 := eqMu (α := Int)
noncomputable def raw4 (x1 : (List Int)) (x2 : (List Int)) (x3 : Int) : Option (((List Int) × Disk) ⊕ ((Bool × Unit) ⊕ Unit)) :=
 if (decide (x3 < ((List.length x1 : Nat) : Int))) = true then
 if (decide ((0 : Int) ≤ x3)) = true then
 if (decide (x3 < ((List.length x1 : Nat) : Int))) = true then
 if (decide ((0 : Int) ≤ x3)) = true then
 if (decide (x3 < ((List.length x2 : Nat) : Int))) = true then
 if (!(decide ((List.getD x1 (Int.toNat x3) (0 : Int)) = (List.getD x2 (Int.toNat x3) (0 : Int))))) = true then
 some (.inr (.inl (false, ())))
 else
 some (.inl (x1, (x2, ((IntKind.wrap .i64 (x3 + (1 : Int))), ()))))
 else
 none
 else
 none
 else
 none
 else
 none
 else
 some (.inr (.inr ()))
abbrev wf (x0 : (List Int)) (x1 : (List Int)) : Prop := wfA [(.val (.sl 0 (.int .u8)) .f), (.val (.sl 0 (.int .u8)) .f)] (x0, (x1, ()))
noncomputable def raw (x0 : (List Int)) (x1 : (List Int)) : Option zt17 :=
 if (!(decide (((List.length x0 : Nat) : Int) = ((List.length x1 : Nat) : Int)))) = true then
  some ((), (false, ()))
 else
  if (laws_eqByteS.pre4 (x0, (x1, ((0 : Int), ())))) = true then
   letB (laws_eqByteS.fn4 (x0, (x1, ((0 : Int), ())))) fun v1 =>
   match v1 with
   | .inl y =>
    some ((), y)
   | .inr y =>
    some ((), (true, ()))
  else
   none
theorem ok4 (x1 x2 : List Int) (x3 : Int) (hp : pre4 (x1, (x2, (x3, ()))) = true) : Rounds pre4 mu4 fn4 (x1, (x2, (x3, ()))) (raw4 x1 x2 x3) := by
 unfold raw4
 by_cases hlt : x3 < (x1.length : Int)
 · obtain ⟨h1, h2, h3, h4⟩ := eq_next hp hlt (0 : Int)
   simp only [letB, hlt, h1, h2, decide_true, if_true]
   by_cases h : x1.getD x3.toNat (0 : Int) = x2.getD x3.toNat (0 : Int)
   · rw [if_neg (by simp only [h, decide_true, Bool.not_true, Bool.false_eq_true, not_false_eq_true])]; exact h3 h
   · rw [if_pos (by simp only [h, decide_false, Bool.not_false])]; exact h4 h
 · simp only [hlt, decide_false, Bool.false_eq_true, if_false]
   exact eq_end hp hlt
theorem eq (x0 x1 : List Int) (hw : wf x0 x1) : raw x0 x1 = some ((), (laws_eqByteS x0 x1, ())) := by
 have h1 : x0.length ≤ maxLen := hw.1.1
 unfold raw laws_eqByteS
 by_cases hl : (x0.length : Int) = (x1.length : Int)
 · rw [if_neg (by simp [hl]), if_pos (show pre4 _ = true from eq_start h1 hl)]
   unfold fn4
   by_cases he : x0 = x1
   · rw [eqFn_eq he, same_true.2 he]; rfl
   · rw [eqFn_ne he, same_false.2 he]; rfl
 · have : ¬ x0 = x1 := fun h => hl (by rw [h])
   rw [if_pos (by simp [hl]), same_false.2 this]
end laws_eqByteS
def laws_markByteS (xs : List Int) (k : Int) : List Int × Int := (mkL mk_Byte cnt_Byte xs k, k + cntL cnt_Byte xs)
namespace laws_markByteS
def pre (xs : List Int) (k : Int) : Bool := mPre cnt_Byte xs k
def pre2 := mkPre cnt_Byte
def fn2 := mkFn mk_Byte cnt_Byte
def mu2 := mkMu (α := Int)
noncomputable def raw2 (x1 : Int) (x2 : Int) (x3 : (List Int)) : Option ((Int × (Int × zt32)) ⊕ (Int × zt32)) :=
 if (decide (x2 < ((List.length x3 : Nat) : Int))) = true then
 if (decide ((0 : Int) ≤ x2)) = true then
 if (decide (x2 < ((List.length x3 : Nat) : Int))) = true then
 some (.inl ((IntKind.wrap .i64 (x1 + (1 : Int))), ((IntKind.wrap .i64 (x2 + (1 : Int))), ((List.modify x3 (Int.toNat x2) (fun z => (IntKind.wrap .u8 x1))), ()))))
 else
 none
 else
 none
 else
 some (.inr (x1, (x3, ())))
abbrev wf (x0 : (List Int)) (x1 : Int) : Prop := wfA [(.mut (.sl 0 (.int .u8))), (.val (.int .i64) .f)] (x0, (x1, ()))
noncomputable def raw (x0 : (List Int)) (x1 : Int) : Option (zt32 × (Int × Unit)) :=
 if (laws_markByteS.pre2 (x1, ((0 : Int), (x0, ())))) = true then
 letB (laws_markByteS.fn2 (x1, ((0 : Int), (x0, ())))) fun v1 =>
 some (v1.2, (v1.1, ()))
 else
 none
theorem ok2 (x1 x2 : Int) (x3 : List Int) (hp : pre2 (x1, (x2, (x3, ()))) = true) : Rounds pre2 mu2 fn2 (x1, (x2, (x3, ()))) (raw2 x1 x2 x3) := by
 unfold raw2
 by_cases hlt : x2 < (x3.length : Int)
 · obtain ⟨h0, hk, hc, hn⟩ := mk_facts mk_Byte_ok hp hlt (0 : Int)
   generalize he : x3.getD x2.toNat (0 : Int) = e at hc
   simp only [cnt_Byte] at hc
   have w0 : IntKind.wrap .i64 (x1 + 1) = x1 + 1 := w64 (by omega) (by omega)
   simp only [letB, List.length_modify, List.modify_modify_eq, getD_modify hn, Function.comp, hlt, h0, he, decide_true, if_true, w0]
   exact mk_step mk_Byte_ok hp hlt (0 : Int) (by rw [he]; simp only [cnt_Byte]) (by rw [he]; rfl)
 · rw [if_neg (by simp [hlt])]; exact mk_end hp hlt
theorem eq (x0 : List Int) (x1 : Int) (_ : wf x0 x1) (hp : pre x0 x1 = true) : raw x0 x1 = some (((laws_markByteS x0 x1).1, ()), ((laws_markByteS x0 x1).2, ())) := by
 unfold raw
 rw [if_pos (show pre2 _ = true from mk_start mk_Byte_ok hp)]
 rfl
end laws_markByteS
theorem markByteS_eq (xs : List Int) (k : Int) : laws_markByteS xs k = (mkL mk_Byte cnt_Byte xs k, k + cntL cnt_Byte xs) := rfl
theorem markByteS_pre {xs : List Int} {k : Int} (h0 : 0 ≤ k) (h1 : k + cntL cnt_Byte xs ≤ 134217728) : laws_markByteS.pre xs k = true := mPre_iff.2 ⟨h0, h1⟩
noncomputable def laws_heldByteS (xs : List Int) (k : Int) : Int := heldN (mkL mk_Byte cnt_Byte) (cntL cnt_Byte) xs k
namespace laws_heldByteS
def pre (xs : List Int) (k : Int) : Bool := mPre cnt_Byte xs k
def pre2 := hePre cnt_Byte
noncomputable def fn2 := heFn mk_Byte cnt_Byte
def mu2 := heMu (α := Int)
noncomputable def raw2 (x1 : (List Int)) (x2 : Int) (x3 : Int) : Option (((List Int) × Mark) ⊕ ((Int × Unit) ⊕ (Int × Unit))) :=
 if (decide (x3 < ((List.length x1 : Nat) : Int))) = true then
 if (decide ((0 : Int) ≤ x3)) = true then
 if (decide (x3 < ((List.length x1 : Nat) : Int))) = true then
 if (!(decide ((List.getD x1 (Int.toNat x3) (0 : Int)) = (IntKind.wrap .u8 x2)))) = true then
 some (.inr (.inl ((-1 : Int), ())))
 else
 some (.inl (x1, ((IntKind.wrap .i64 (x2 + (1 : Int))), ((IntKind.wrap .i64 (x3 + (1 : Int))), ()))))
 else
 none
 else
 none
 else
 some (.inr (.inr (x2, ())))
abbrev wf (x0 : (List Int)) (x1 : Int) : Prop := wfA [(.val (.sl 0 (.int .u8)) .f), (.val (.int .i64) .f)] (x0, (x1, ()))
noncomputable def raw (x0 : (List Int)) (x1 : Int) : Option zt28 :=
 if (laws_heldByteS.pre2 (x0, (x1, ((0 : Int), ())))) = true then
  letB (laws_heldByteS.fn2 (x0, (x1, ((0 : Int), ())))) fun v1 =>
  match v1 with
  | .inl y =>
   some ((), y)
  | .inr y =>
   some ((), y)
 else
  none
theorem ok2 (x1 : List Int) (x2 x3 : Int) (hp : pre2 (x1, (x2, (x3, ()))) = true) : Rounds pre2 mu2 fn2 (x1, (x2, (x3, ()))) (raw2 x1 x2 x3) := by
 unfold raw2
 by_cases hlt : x3 < (x1.length : Int)
 · obtain ⟨h0, hk, hc⟩ := he_facts mk_Byte_ok hp hlt (0 : Int)
   have bad := he_bad (m := mk_Byte) (g := cnt_Byte) hp hlt (0 : Int)
   have good := fun K hK => he_good mk_Byte_ok (K := K) hp hlt (0 : Int) hK
   generalize x1.getD x3.toNat (0 : Int) = e at *
   simp only [cnt_Byte] at hc
   have w0 : IntKind.wrap .i64 (x2 + 1) = x2 + 1 := w64 (by omega) (by omega)
   simp only [letB, hlt, h0, decide_true, if_true, w0]
   by_cases c : e = IntKind.wrap .u8 x2
   case neg => rw [if_pos (by simp [c])]; exact bad c
   rw [if_neg (by simp [c])]
   exact good _ (by simp only [cnt_Byte]) c
 · rw [if_neg (by simp [hlt])]; exact he_end hp hlt
theorem eq (x0 : List Int) (x1 : Int) (_ : wf x0 x1) (hp : pre x0 x1 = true) : raw x0 x1 = some ((), (laws_heldByteS x0 x1, ())) := by
 unfold raw
 rw [if_pos (show pre2 _ = true from he_start mk_Byte_ok hp)]
 exact heFn_start x0 x1
end laws_heldByteS
theorem heldByteS_pos {xs : List Int} {k : Int} (h : xs = mkL mk_Byte cnt_Byte xs k) : laws_heldByteS xs k = k + cntL cnt_Byte xs := heldN_pos h
theorem heldByteS_neg {xs : List Int} {k : Int} (h : ¬ xs = mkL mk_Byte cnt_Byte xs k) : laws_heldByteS xs k = -1 := heldN_neg h
theorem heldByteS_pre {xs : List Int} {k : Int} (h0 : 0 ≤ k) (h1 : k + cntL cnt_Byte xs ≤ 134217728) : laws_heldByteS.pre xs k = true := mPre_iff.2 ⟨h0, h1⟩
noncomputable def laws_eqBoolS (a b : List Bool) : Bool := same a b
namespace laws_eqBoolS
def pre4 := eqPre (α := Bool)
noncomputable def fn4 := eqFn (α := Bool)
def mu4 := eqMu (α := Bool)
noncomputable def raw4 (x1 : (List Bool)) (x2 : (List Bool)) (x3 : Int) : Option (((List Bool) × ((List Bool) × (Int × Unit))) ⊕ ((Bool × Unit) ⊕ Unit)) :=
 if (decide (x3 < ((List.length x1 : Nat) : Int))) = true then
 if (decide ((0 : Int) ≤ x3)) = true then
 if (decide (x3 < ((List.length x1 : Nat) : Int))) = true then
 if (decide ((0 : Int) ≤ x3)) = true then
 if (decide (x3 < ((List.length x2 : Nat) : Int))) = true then
 if (!((List.getD x1 (Int.toNat x3) false) == (List.getD x2 (Int.toNat x3) false))) = true then
 some (.inr (.inl (false, ())))
 else
 some (.inl (x1, (x2, ((IntKind.wrap .i64 (x3 + (1 : Int))), ()))))
 else
 none
 else
 none
 else
 none
 else
 none
 else
 some (.inr (.inr ()))
abbrev wf (x0 : (List Bool)) (x1 : (List Bool)) : Prop := wfA [(.val (.sl 0 .bool) .f), (.val (.sl 0 .bool) .f)] (x0, (x1, ()))
noncomputable def raw (x0 : (List Bool)) (x1 : (List Bool)) : Option zt17 :=
 if (!(decide (((List.length x0 : Nat) : Int) = ((List.length x1 : Nat) : Int)))) = true then
  some ((), (false, ()))
 else
  if (laws_eqBoolS.pre4 (x0, (x1, ((0 : Int), ())))) = true then
   letB (laws_eqBoolS.fn4 (x0, (x1, ((0 : Int), ())))) fun v1 =>
   match v1 with
   | .inl y =>
    some ((), y)
   | .inr y =>
    some ((), (true, ()))
  else
   none
theorem ok4 (x1 x2 : List Bool) (x3 : Int) (hp : pre4 (x1, (x2, (x3, ()))) = true) : Rounds pre4 mu4 fn4 (x1, (x2, (x3, ()))) (raw4 x1 x2 x3) := by
 unfold raw4
 by_cases hlt : x3 < (x1.length : Int)
 · obtain ⟨h1, h2, h3, h4⟩ := eq_next hp hlt false
   simp only [letB, hlt, h1, h2, decide_true, if_true]
   by_cases h : x1.getD x3.toNat false = x2.getD x3.toNat false
   · rw [if_neg (by rw [h]; simp)]; exact h3 h
   · rw [if_pos (by rw [beq_false_of_ne h]; rfl)]; exact h4 h
 · simp only [hlt, decide_false, Bool.false_eq_true, if_false]
   exact eq_end hp hlt
theorem eq (x0 x1 : List Bool) (hw : wf x0 x1) : raw x0 x1 = some ((), (laws_eqBoolS x0 x1, ())) := by
 have h1 : x0.length ≤ maxLen := hw.1.1
 unfold raw laws_eqBoolS
 by_cases hl : (x0.length : Int) = (x1.length : Int)
 · rw [if_neg (by simp [hl]), if_pos (show pre4 _ = true from eq_start h1 hl)]
   unfold fn4
   by_cases he : x0 = x1
   · rw [eqFn_eq he, same_true.2 he]; rfl
   · rw [eqFn_ne he, same_false.2 he]; rfl
 · have : ¬ x0 = x1 := fun h => hl (by rw [h])
   rw [if_pos (by simp [hl]), same_false.2 this]
end laws_eqBoolS
def laws_markBoolS (xs : List Bool) (k : Int) : List Bool × Int := (mkL mk_Bool cnt_Bool xs k, k + cntL cnt_Bool xs)
namespace laws_markBoolS
def pre (xs : List Bool) (k : Int) : Bool := mPre cnt_Bool xs k
def pre2 := mkPre cnt_Bool
def fn2 := mkFn mk_Bool cnt_Bool
def mu2 := mkMu (α := Bool)
noncomputable def raw2 (x1 : Int) (x2 : Int) (x3 : (List Bool)) : Option ((Int × (Int × ((List Bool) × Unit))) ⊕ (Int × ((List Bool) × Unit))) :=
 if (decide (x2 < ((List.length x3 : Nat) : Int))) = true then
 if (!(decide ((3 : Int) = (0 : Int)))) = true then
 if (decide ((0 : Int) ≤ x2)) = true then
 if (decide (x2 < ((List.length x3 : Nat) : Int))) = true then
 some (.inl ((IntKind.wrap .i64 (x1 + (1 : Int))), ((IntKind.wrap .i64 (x2 + (1 : Int))), ((List.modify x3 (Int.toNat x2) (fun z => (decide ((Int.tmod x1 (3 : Int)) = (0 : Int))))), ()))))
 else
 none
 else
 none
 else
 none
 else
 some (.inr (x1, (x3, ())))
abbrev wf (x0 : (List Bool)) (x1 : Int) : Prop := wfA [(.mut (.sl 0 .bool)), (.val (.int .i64) .f)] (x0, (x1, ()))
noncomputable def raw (x0 : (List Bool)) (x1 : Int) : Option (((List Bool) × Unit) × (Int × Unit)) :=
 if (laws_markBoolS.pre2 (x1, ((0 : Int), (x0, ())))) = true then
 letB (laws_markBoolS.fn2 (x1, ((0 : Int), (x0, ())))) fun v1 =>
 some (v1.2, (v1.1, ()))
 else
 none
theorem ok2 (x1 x2 : Int) (x3 : List Bool) (hp : pre2 (x1, (x2, (x3, ()))) = true) : Rounds pre2 mu2 fn2 (x1, (x2, (x3, ()))) (raw2 x1 x2 x3) := by
 unfold raw2
 by_cases hlt : x2 < (x3.length : Int)
 · obtain ⟨h0, hk, hc, hn⟩ := mk_facts mk_Bool_ok hp hlt false
   generalize he : x3.getD x2.toNat false = e at hc
   simp only [cnt_Bool] at hc
   have w0 : IntKind.wrap .i64 (x1 + 1) = x1 + 1 := w64 (by omega) (by omega)
   simp only [letB, List.length_modify, List.modify_modify_eq, getD_modify hn, Function.comp, hlt, h0, he, decide_true, if_true, w0]
   exact mk_step mk_Bool_ok hp hlt false (by rw [he]; simp only [cnt_Bool]) (by rw [he]; rfl)
 · rw [if_neg (by simp [hlt])]; exact mk_end hp hlt
theorem eq (x0 : List Bool) (x1 : Int) (_ : wf x0 x1) (hp : pre x0 x1 = true) : raw x0 x1 = some (((laws_markBoolS x0 x1).1, ()), ((laws_markBoolS x0 x1).2, ())) := by
 unfold raw
 rw [if_pos (show pre2 _ = true from mk_start mk_Bool_ok hp)]
 rfl
end laws_markBoolS
theorem markBoolS_eq (xs : List Bool) (k : Int) : laws_markBoolS xs k = (mkL mk_Bool cnt_Bool xs k, k + cntL cnt_Bool xs) := rfl
theorem markBoolS_pre {xs : List Bool} {k : Int} (h0 : 0 ≤ k) (h1 : k + cntL cnt_Bool xs ≤ 134217728) : laws_markBoolS.pre xs k = true := mPre_iff.2 ⟨h0, h1⟩
noncomputable def laws_heldBoolS (xs : List Bool) (k : Int) : Int := heldN (mkL mk_Bool cnt_Bool) (cntL cnt_Bool) xs k
namespace laws_heldBoolS
def pre (xs : List Bool) (k : Int) : Bool := mPre cnt_Bool xs k
def pre2 := hePre cnt_Bool
noncomputable def fn2 := heFn mk_Bool cnt_Bool
def mu2 := heMu (α := Bool)
noncomputable def raw2 (x1 : (List Bool)) (x2 : Int) (x3 : Int) : Option (((List Bool) × Mark) ⊕ ((Int × Unit) ⊕ (Int × Unit))) :=
 if (decide (x3 < ((List.length x1 : Nat) : Int))) = true then
 if (decide ((0 : Int) ≤ x3)) = true then
 if (decide (x3 < ((List.length x1 : Nat) : Int))) = true then
 if (!(decide ((3 : Int) = (0 : Int)))) = true then
 if (!((List.getD x1 (Int.toNat x3) false) == (decide ((Int.tmod x2 (3 : Int)) = (0 : Int))))) = true then
 some (.inr (.inl ((-1 : Int), ())))
 else
 some (.inl (x1, ((IntKind.wrap .i64 (x2 + (1 : Int))), ((IntKind.wrap .i64 (x3 + (1 : Int))), ()))))
 else
 none
 else
 none
 else
 none
 else
 some (.inr (.inr (x2, ())))
abbrev wf (x0 : (List Bool)) (x1 : Int) : Prop := wfA [(.val (.sl 0 .bool) .f), (.val (.int .i64) .f)] (x0, (x1, ()))
noncomputable def raw (x0 : (List Bool)) (x1 : Int) : Option zt28 :=
 if (laws_heldBoolS.pre2 (x0, (x1, ((0 : Int), ())))) = true then
  letB (laws_heldBoolS.fn2 (x0, (x1, ((0 : Int), ())))) fun v1 =>
  match v1 with
  | .inl y =>
   some ((), y)
  | .inr y =>
   some ((), y)
 else
  none
theorem ok2 (x1 : List Bool) (x2 x3 : Int) (hp : pre2 (x1, (x2, (x3, ()))) = true) : Rounds pre2 mu2 fn2 (x1, (x2, (x3, ()))) (raw2 x1 x2 x3) := by
 unfold raw2
 by_cases hlt : x3 < (x1.length : Int)
 · obtain ⟨h0, hk, hc⟩ := he_facts mk_Bool_ok hp hlt false
   have bad := he_bad (m := mk_Bool) (g := cnt_Bool) hp hlt false
   have good := fun K hK => he_good mk_Bool_ok (K := K) hp hlt false hK
   generalize x1.getD x3.toNat false = e at *
   simp only [cnt_Bool] at hc
   have w0 : IntKind.wrap .i64 (x2 + 1) = x2 + 1 := w64 (by omega) (by omega)
   simp only [letB, hlt, h0, decide_true, if_true, w0]
   rw [if_pos (show (!decide ((3 : Int) = 0)) = true from rfl)]
   by_cases c : e = decide (Int.tmod x2 3 = 0)
   case neg => rw [if_pos (by rw [beq_false_of_ne c]; rfl)]; exact bad c
   rw [if_neg (by rw [c, beq_self_eq_true]; decide)]
   exact good _ (by simp only [cnt_Bool]) c
 · rw [if_neg (by simp [hlt])]; exact he_end hp hlt
theorem eq (x0 : List Bool) (x1 : Int) (_ : wf x0 x1) (hp : pre x0 x1 = true) : raw x0 x1 = some ((), (laws_heldBoolS x0 x1, ())) := by
 unfold raw
 rw [if_pos (show pre2 _ = true from he_start mk_Bool_ok hp)]
 exact heFn_start x0 x1
end laws_heldBoolS
theorem heldBoolS_pos {xs : List Bool} {k : Int} (h : xs = mkL mk_Bool cnt_Bool xs k) : laws_heldBoolS xs k = k + cntL cnt_Bool xs := heldN_pos h
theorem heldBoolS_neg {xs : List Bool} {k : Int} (h : ¬ xs = mkL mk_Bool cnt_Bool xs k) : laws_heldBoolS xs k = -1 := heldN_neg h
theorem heldBoolS_pre {xs : List Bool} {k : Int} (h0 : 0 ≤ k) (h1 : k + cntL cnt_Bool xs ≤ 134217728) : laws_heldBoolS.pre xs k = true := mPre_iff.2 ⟨h0, h1⟩
noncomputable def laws_eqCmd (a b : Cmd) : Bool := same a b
namespace laws_eqCmd
abbrev wf (x0 : Cmd) (x1 : Cmd) : Prop := wfA [(.val zk34 .f), (.val zk34 .f)] (x0, (x1, ()))
noncomputable def raw (x0 : Cmd) (x1 : Cmd) : Option zt17 :=
 if (!(decide (x0.1 = x1.1))) = true then
 some ((), (false, ()))
 else
 if (!(decide (x0.2.1 = x1.2.1))) = true then
 some ((), (false, ()))
 else
 if (!(decide (x0.2.2.1 = x1.2.2.1))) = true then
 some ((), (false, ()))
 else
 if (!(decide (x0.2.2.2.1 = x1.2.2.2.1))) = true then
 some ((), (false, ()))
 else
 if (!(decide (x0.2.2.2.2.1 = x1.2.2.2.2.1))) = true then
 some ((), (false, ()))
 else
 if (!(decide (x0.2.2.2.2.2.1 = x1.2.2.2.2.2.1))) = true then
 some ((), (false, ()))
 else
 if (!(x0.2.2.2.2.2.2.1 == x1.2.2.2.2.2.2.1)) = true then
 some ((), (false, ()))
 else
 if (!(x0.2.2.2.2.2.2.2.1 == x1.2.2.2.2.2.2.2.1)) = true then
 some ((), (false, ()))
 else
 some ((), (true, ()))
theorem eq (x0 x1 : Cmd) (_ : wf x0 x1) : raw x0 x1 = some ((), (laws_eqCmd x0 x1, ())) := by
 unfold raw laws_eqCmd
 try simp only [letB]
 by_cases c0 : x0.1 = x1.1
 case neg => rw [if_pos (by simp [c0]), same_false.2 (fun h => c0 (congrArg (fun z : Cmd => z.1) h))]
 rw [if_neg (by simp [c0])]
 by_cases c1 : x0.2.1 = x1.2.1
 case neg => rw [if_pos (by simp [c1]), same_false.2 (fun h => c1 (congrArg (fun z : Cmd => z.2.1) h))]
 rw [if_neg (by simp [c1])]
 by_cases c2 : x0.2.2.1 = x1.2.2.1
 case neg => rw [if_pos (by simp [c2]), same_false.2 (fun h => c2 (congrArg (fun z : Cmd => z.2.2.1) h))]
 rw [if_neg (by simp [c2])]
 by_cases c3 : x0.2.2.2.1 = x1.2.2.2.1
 case neg => rw [if_pos (by simp [c3]), same_false.2 (fun h => c3 (congrArg (fun z : Cmd => z.2.2.2.1) h))]
 rw [if_neg (by simp [c3])]
 by_cases c4 : x0.2.2.2.2.1 = x1.2.2.2.2.1
 case neg => rw [if_pos (by simp [c4]), same_false.2 (fun h => c4 (congrArg (fun z : Cmd => z.2.2.2.2.1) h))]
 rw [if_neg (by simp [c4])]
 by_cases c5 : x0.2.2.2.2.2.1 = x1.2.2.2.2.2.1
 case neg => rw [if_pos (by simp [c5]), same_false.2 (fun h => c5 (congrArg (fun z : Cmd => z.2.2.2.2.2.1) h))]
 rw [if_neg (by simp [c5])]
 by_cases c6 : x0.2.2.2.2.2.2.1 = x1.2.2.2.2.2.2.1
 case neg => rw [if_pos (by simp [c6]), same_false.2 (fun h => c6 (congrArg (fun z : Cmd => z.2.2.2.2.2.2.1) h))]
 rw [if_neg (by simp [c6])]
 by_cases c7 : x0.2.2.2.2.2.2.2.1 = x1.2.2.2.2.2.2.2.1
 case neg => rw [if_pos (by simp [c7]), same_false.2 (fun h => c7 (congrArg (fun z : Cmd => z.2.2.2.2.2.2.2.1) h))]
 rw [if_neg (by simp [c7])]
 rw [same_true.2 (Prod.ext c0 (Prod.ext c1 (Prod.ext c2 (Prod.ext c3 (Prod.ext c4 (Prod.ext c5 (Prod.ext c6 (Prod.ext c7 rfl))))))))]
end laws_eqCmd
noncomputable def laws_eqEntry (a b : Entry) : Bool := same a b
namespace laws_eqEntry
abbrev wf (x0 : Entry) (x1 : Entry) : Prop := wfA [(.val zk3 .f), (.val zk3 .f)] (x0, (x1, ()))
noncomputable def raw (x0 : Entry) (x1 : Entry) : Option zt17 :=
 if (!(decide (x0.1 = x1.1))) = true then
 some ((), (false, ()))
 else
 letB (laws_eqCmd x0.2.1 x1.2.1) fun v1 =>
 if (!v1) = true then
 some ((), (false, ()))
 else
 some ((), (true, ()))
theorem eq (x0 x1 : Entry) (_ : wf x0 x1) : raw x0 x1 = some ((), (laws_eqEntry x0 x1, ())) := by
 unfold raw laws_eqEntry
 try simp only [letB]
 by_cases c0 : x0.1 = x1.1
 case neg => rw [if_pos (by simp [c0]), same_false.2 (fun h => c0 (congrArg (fun z : Entry => z.1) h))]
 rw [if_neg (by simp [c0])]
 by_cases c1 : x0.2.1 = x1.2.1
 case neg => rw [if_pos (by rw [laws_eqCmd, same_false.2 c1]; rfl), same_false.2 (fun h => c1 (congrArg (fun z : Entry => z.2.1) h))]
 rw [if_neg (by rw [laws_eqCmd, same_true.2 c1]; simp)]
 rw [same_true.2 (Prod.ext c0 (Prod.ext c1 rfl))]
end laws_eqEntry
noncomputable def laws_eqEntryS (a b : List Entry) : Bool := same a b
namespace laws_eqEntryS
def pre4 := eqPre (α := Entry)
noncomputable def fn4 := eqFn (α := Entry)
def mu4 := eqMu (α := Entry)
noncomputable def raw4 (x1 : (List Entry)) (x2 : (List Entry)) (x3 : Int) : Option (((List Entry) × ((List Entry) × (Int × Unit))) ⊕ ((Bool × Unit) ⊕ Unit)) :=
 if (decide (x3 < ((List.length x1 : Nat) : Int))) = true then
 if (decide ((0 : Int) ≤ x3)) = true then
 if (decide (x3 < ((List.length x1 : Nat) : Int))) = true then
 if (decide ((0 : Int) ≤ x3)) = true then
 if (decide (x3 < ((List.length x2 : Nat) : Int))) = true then
 letB (laws_eqEntry (List.getD x1 (Int.toNat x3) zd15) (List.getD x2 (Int.toNat x3) zd15)) fun v1 =>
 if (!v1) = true then
 some (.inr (.inl (false, ())))
 else
 some (.inl (x1, (x2, ((IntKind.wrap .i64 (x3 + (1 : Int))), ()))))
 else
 none
 else
 none
 else
 none
 else
 none
 else
 some (.inr (.inr ()))
abbrev wf (x0 : (List Entry)) (x1 : (List Entry)) : Prop := wfA [(.val (.sl 0 zk3) .f), (.val (.sl 0 zk3) .f)] (x0, (x1, ()))
noncomputable def raw (x0 : (List Entry)) (x1 : (List Entry)) : Option zt17 :=
 if (!(decide (((List.length x0 : Nat) : Int) = ((List.length x1 : Nat) : Int)))) = true then
  some ((), (false, ()))
 else
  if (laws_eqEntryS.pre4 (x0, (x1, ((0 : Int), ())))) = true then
   letB (laws_eqEntryS.fn4 (x0, (x1, ((0 : Int), ())))) fun v1 =>
   match v1 with
   | .inl y =>
    some ((), y)
   | .inr y =>
    some ((), (true, ()))
  else
   none
theorem ok4 (x1 x2 : List Entry) (x3 : Int) (hp : pre4 (x1, (x2, (x3, ()))) = true) : Rounds pre4 mu4 fn4 (x1, (x2, (x3, ()))) (raw4 x1 x2 x3) := by
 unfold raw4
 by_cases hlt : x3 < (x1.length : Int)
 · obtain ⟨h1, h2, h3, h4⟩ := eq_next hp hlt zd15
   simp only [letB, hlt, h1, h2, decide_true, if_true]
   by_cases h : x1.getD x3.toNat zd15 = x2.getD x3.toNat zd15
   · rw [if_neg (by rw [laws_eqEntry, same_true.2 h]; simp)]; exact h3 h
   · rw [if_pos (by rw [laws_eqEntry, same_false.2 h]; rfl)]; exact h4 h
 · simp only [hlt, decide_false, Bool.false_eq_true, if_false]
   exact eq_end hp hlt
theorem eq (x0 x1 : List Entry) (hw : wf x0 x1) : raw x0 x1 = some ((), (laws_eqEntryS x0 x1, ())) := by
 have h1 : x0.length ≤ maxLen := hw.1.1
 unfold raw laws_eqEntryS
 by_cases hl : (x0.length : Int) = (x1.length : Int)
 · rw [if_neg (by simp [hl]), if_pos (show pre4 _ = true from eq_start h1 hl)]
   unfold fn4
   by_cases he : x0 = x1
   · rw [eqFn_eq he, same_true.2 he]; rfl
   · rw [eqFn_ne he, same_false.2 he]; rfl
 · have : ¬ x0 = x1 := fun h => hl (by rw [h])
   rw [if_pos (by simp [hl]), same_false.2 this]
end laws_eqEntryS
def mk_Entry (_ : Entry) (k : Int) : Entry := mE k
def cnt_Entry (_ : Entry) : Int := 9
theorem mk_Entry_ok : MkOk mk_Entry cnt_Entry := ⟨fun _ => by simp only [cnt_Entry]; decide, fun _ _ => rfl, fun _ _ => rfl⟩
theorem mkL_Entry : (xs : List Entry) → (k : Int) → mkL mk_Entry cnt_Entry xs k = markEL xs.length k
 | [], _ => rfl
 | a :: r, k => by
  simp only [mkL, List.length_cons, markEL, mkL_Entry r]
  rw [show k + cnt_Entry a = k + 1 + 1 + 1 + 1 + 1 + 1 + 1 + 1 + 1 by simp only [cnt_Entry]; omega]
  rfl
theorem cntL_Entry : (xs : List Entry) → cntL cnt_Entry xs = 9 * xs.length
 | [] => rfl
 | a :: r => by simp only [cntL, cnt_Entry, cntL_Entry r, List.length_cons]; omega
theorem markEntryS_eq (xs : List Entry) (k : Int) : laws_markEntryS xs k = (mkL mk_Entry cnt_Entry xs k, k + cntL cnt_Entry xs) := by
 rw [mkL_Entry, cntL_Entry]; rfl
theorem markEntryS_pre {xs : List Entry} {k : Int} (h0 : 0 ≤ k) (h1 : k + cntL cnt_Entry xs ≤ 134217728) : laws_markEntryS.pre xs k = true := by
 rw [cntL_Entry] at h1
 simp only [laws_markEntryS.pre, Bool.and_eq_true, decide_eq_true_eq, small_iff]; omega
theorem heldEntryS_eq (xs : List Entry) (k : Int) : laws_heldEntryS xs k = heldN (mkL mk_Entry cnt_Entry) (cntL cnt_Entry) xs k := by
 unfold laws_heldEntryS
 by_cases h : xs = mkL mk_Entry cnt_Entry xs k
 · rw [heldN_pos h, cntL_Entry, if_pos (by rw [← mkL_Entry]; exact h)]
 · rw [heldN_neg h, if_neg (by rw [← mkL_Entry]; exact h)]
theorem heldEntryS_pos {xs : List Entry} {k : Int} (h : xs = mkL mk_Entry cnt_Entry xs k) : laws_heldEntryS xs k = k + cntL cnt_Entry xs := by rw [heldEntryS_eq]; exact heldN_pos h
theorem heldEntryS_neg {xs : List Entry} {k : Int} (h : ¬ xs = mkL mk_Entry cnt_Entry xs k) : laws_heldEntryS xs k = -1 := by rw [heldEntryS_eq]; exact heldN_neg h
theorem heldEntryS_pre {xs : List Entry} {k : Int} (h0 : 0 ≤ k) (h1 : k + cntL cnt_Entry xs ≤ 134217728) : laws_heldEntryS.pre xs k = true := markEntryS_pre h0 h1
def mkT_Log (x : Log) (k : Int) : Log := (x.1, (x.2.1, (mkL mk_Entry cnt_Entry x.2.2.1 (k), ())))
def cntT_Log (x : Log) : Int := cntL cnt_Entry x.2.2.1
theorem cntT_Log_nn (x : Log) : 0 ≤ cntT_Log x := by
 have n2 := cntL_nn mk_Entry_ok x.2.2.1
 simp only [cntT_Log]; omega
theorem mkT_Log_keep (x : Log) (k : Int) : cntT_Log (mkT_Log x k) = cntT_Log x := by simp only [cntT_Log, mkT_Log, cntL_mkL mk_Entry_ok]
theorem mkT_Log_idem (x : Log) (k : Int) : mkT_Log (mkT_Log x k) k = mkT_Log x k := by simp only [mkT_Log, cntL_mkL mk_Entry_ok, mkL_mkL mk_Entry_ok]
theorem markLog_eq (x : Log) (k : Int) : laws_markLog x k = (mkT_Log x k, k + cntT_Log x) := by
 simp only [mkT_Log, cntT_Log, mkL_Entry, cntL_Entry]; rfl
theorem markLogK_pre {x : Log} {k : Int} (h0 : 0 ≤ k) (h1 : k + cntT_Log x ≤ 134217728) : laws_markLog.pre x k = true := markEntryS_pre h0 h1
theorem heldLogK_pre {x : Log} {k : Int} (h0 : 0 ≤ k) (h1 : k + cntT_Log x ≤ 134217728) : laws_heldLog.pre x k = true := markEntryS_pre h0 h1
theorem heldLog_pos {x : Log} {k : Int} (h : x = mkT_Log x k) (h0 : 0 ≤ k) : laws_heldLog x k = k + cntT_Log x := by
 have h2 := heldEntryS_pos (xs := x.2.2.1) (k := k) (congrArg (fun z : Log => z.2.2.1) h)
 have h3 := cntL_nn mk_Entry_ok x.2.2.1
 unfold laws_heldLog
 simp only [h2, cntT_Log]
 rw [if_neg (by omega)]
theorem heldLog_neg {x : Log} {k : Int} (h : ¬ x = mkT_Log x k) : laws_heldLog x k = -1 := by
 have h2 := heldEntryS_neg (xs := x.2.2.1) (k := k) (fun g => h (Prod.ext rfl (Prod.ext rfl (Prod.ext g rfl))))
 unfold laws_heldLog
 simp only [h2]
 rfl
noncomputable def laws_eqLog (a b : Log) : Bool := same a b
namespace laws_eqLog
abbrev wf (x0 : Log) (x1 : Log) : Prop := wfA [(.val zk21 .f), (.val zk21 .f)] (x0, (x1, ()))
noncomputable def raw (x0 : Log) (x1 : Log) : Option zt17 :=
 if (!(decide (x0.1 = x1.1))) = true then
 some ((), (false, ()))
 else
 if (!(decide (x0.2.1 = x1.2.1))) = true then
 some ((), (false, ()))
 else
 letB (laws_eqEntryS x0.2.2.1 x1.2.2.1) fun v1 =>
 if (!v1) = true then
 some ((), (false, ()))
 else
 some ((), (true, ()))
theorem eq (x0 x1 : Log) (_ : wf x0 x1) : raw x0 x1 = some ((), (laws_eqLog x0 x1, ())) := by
 unfold raw laws_eqLog
 try simp only [letB]
 by_cases c0 : x0.1 = x1.1
 case neg => rw [if_pos (by simp [c0]), same_false.2 (fun h => c0 (congrArg (fun z : Log => z.1) h))]
 rw [if_neg (by simp [c0])]
 by_cases c1 : x0.2.1 = x1.2.1
 case neg => rw [if_pos (by simp [c1]), same_false.2 (fun h => c1 (congrArg (fun z : Log => z.2.1) h))]
 rw [if_neg (by simp [c1])]
 by_cases c2 : x0.2.2.1 = x1.2.2.1
 case neg => rw [if_pos (by rw [laws_eqEntryS, same_false.2 c2]; rfl), same_false.2 (fun h => c2 (congrArg (fun z : Log => z.2.2.1) h))]
 rw [if_neg (by rw [laws_eqEntryS, same_true.2 c2]; simp)]
 rw [same_true.2 (Prod.ext c0 (Prod.ext c1 (Prod.ext c2 rfl)))]
end laws_eqLog
def mk_Mark (_ : Mark) (k : Int) : Mark := (k, (k + 1, ()))
def cnt_Mark (_ : Mark) : Int := 2
theorem mk_Mark_ok : MkOk mk_Mark cnt_Mark := ⟨fun _ => by simp only [cnt_Mark]; decide, fun _ _ => rfl, fun _ _ => rfl⟩
noncomputable def laws_eqMark (a b : Mark) : Bool := same a b
namespace laws_eqMark
abbrev wf (x0 : Mark) (x1 : Mark) : Prop := wfA [(.val zk13 .f), (.val zk13 .f)] (x0, (x1, ()))
noncomputable def raw (x0 : Mark) (x1 : Mark) : Option zt17 :=
 if (!(decide (x0.1 = x1.1))) = true then
 some ((), (false, ()))
 else
 if (!(decide (x0.2.1 = x1.2.1))) = true then
 some ((), (false, ()))
 else
 some ((), (true, ()))
theorem eq (x0 x1 : Mark) (_ : wf x0 x1) : raw x0 x1 = some ((), (laws_eqMark x0 x1, ())) := by
 unfold raw laws_eqMark
 try simp only [letB]
 by_cases c0 : x0.1 = x1.1
 case neg => rw [if_pos (by simp [c0]), same_false.2 (fun h => c0 (congrArg (fun z : Mark => z.1) h))]
 rw [if_neg (by simp [c0])]
 by_cases c1 : x0.2.1 = x1.2.1
 case neg => rw [if_pos (by simp [c1]), same_false.2 (fun h => c1 (congrArg (fun z : Mark => z.2.1) h))]
 rw [if_neg (by simp [c1])]
 rw [same_true.2 (Prod.ext c0 (Prod.ext c1 rfl))]
end laws_eqMark
noncomputable def laws_eqMarkS (a b : List Mark) : Bool := same a b
namespace laws_eqMarkS
def pre4 := eqPre (α := Mark)
noncomputable def fn4 := eqFn (α := Mark)
def mu4 := eqMu (α := Mark)
noncomputable def raw4 (x1 : (List Mark)) (x2 : (List Mark)) (x3 : Int) : Option (((List Mark) × ((List Mark) × (Int × Unit))) ⊕ ((Bool × Unit) ⊕ Unit)) :=
 if (decide (x3 < ((List.length x1 : Nat) : Int))) = true then
 if (decide ((0 : Int) ≤ x3)) = true then
 if (decide (x3 < ((List.length x1 : Nat) : Int))) = true then
 if (decide ((0 : Int) ≤ x3)) = true then
 if (decide (x3 < ((List.length x2 : Nat) : Int))) = true then
 letB (laws_eqMark (List.getD x1 (Int.toNat x3) zd22) (List.getD x2 (Int.toNat x3) zd22)) fun v1 =>
 if (!v1) = true then
 some (.inr (.inl (false, ())))
 else
 some (.inl (x1, (x2, ((IntKind.wrap .i64 (x3 + (1 : Int))), ()))))
 else
 none
 else
 none
 else
 none
 else
 none
 else
 some (.inr (.inr ()))
abbrev wf (x0 : (List Mark)) (x1 : (List Mark)) : Prop := wfA [(.val (.sl 0 zk13) .f), (.val (.sl 0 zk13) .f)] (x0, (x1, ()))
noncomputable def raw (x0 : (List Mark)) (x1 : (List Mark)) : Option zt17 :=
 if (!(decide (((List.length x0 : Nat) : Int) = ((List.length x1 : Nat) : Int)))) = true then
  some ((), (false, ()))
 else
  if (laws_eqMarkS.pre4 (x0, (x1, ((0 : Int), ())))) = true then
   letB (laws_eqMarkS.fn4 (x0, (x1, ((0 : Int), ())))) fun v1 =>
   match v1 with
   | .inl y =>
    some ((), y)
   | .inr y =>
    some ((), (true, ()))
  else
   none
theorem ok4 (x1 x2 : List Mark) (x3 : Int) (hp : pre4 (x1, (x2, (x3, ()))) = true) : Rounds pre4 mu4 fn4 (x1, (x2, (x3, ()))) (raw4 x1 x2 x3) := by
 unfold raw4
 by_cases hlt : x3 < (x1.length : Int)
 · obtain ⟨h1, h2, h3, h4⟩ := eq_next hp hlt zd22
   simp only [letB, hlt, h1, h2, decide_true, if_true]
   by_cases h : x1.getD x3.toNat zd22 = x2.getD x3.toNat zd22
   · rw [if_neg (by rw [laws_eqMark, same_true.2 h]; simp)]; exact h3 h
   · rw [if_pos (by rw [laws_eqMark, same_false.2 h]; rfl)]; exact h4 h
 · simp only [hlt, decide_false, Bool.false_eq_true, if_false]
   exact eq_end hp hlt
theorem eq (x0 x1 : List Mark) (hw : wf x0 x1) : raw x0 x1 = some ((), (laws_eqMarkS x0 x1, ())) := by
 have h1 : x0.length ≤ maxLen := hw.1.1
 unfold raw laws_eqMarkS
 by_cases hl : (x0.length : Int) = (x1.length : Int)
 · rw [if_neg (by simp [hl]), if_pos (show pre4 _ = true from eq_start h1 hl)]
   unfold fn4
   by_cases he : x0 = x1
   · rw [eqFn_eq he, same_true.2 he]; rfl
   · rw [eqFn_ne he, same_false.2 he]; rfl
 · have : ¬ x0 = x1 := fun h => hl (by rw [h])
   rw [if_pos (by simp [hl]), same_false.2 this]
end laws_eqMarkS
def laws_markMarkS (xs : List Mark) (k : Int) : List Mark × Int := (mkL mk_Mark cnt_Mark xs k, k + cntL cnt_Mark xs)
namespace laws_markMarkS
def pre (xs : List Mark) (k : Int) : Bool := mPre cnt_Mark xs k
def pre2 := mkPre cnt_Mark
def fn2 := mkFn mk_Mark cnt_Mark
def mu2 := mkMu (α := Mark)
noncomputable def raw2 (x1 : Int) (x2 : Int) (x3 : (List Mark)) : Option ((Int × (Int × ((List Mark) × Unit))) ⊕ (Int × ((List Mark) × Unit))) :=
 if (decide (x2 < ((List.length x3 : Nat) : Int))) = true then
 if (decide ((0 : Int) ≤ x2)) = true then
 if (decide (x2 < ((List.length x3 : Nat) : Int))) = true then
 if (decide ((0 : Int) ≤ x2)) = true then
 if (decide (x2 < ((List.length (List.modify x3 (Int.toNat x2) (fun z => (x1, z.2))) : Nat) : Int))) = true then
 some (.inl ((IntKind.wrap .i64 ((IntKind.wrap .i64 (x1 + (1 : Int))) + (1 : Int))), ((IntKind.wrap .i64 (x2 + (1 : Int))), ((List.modify (List.modify x3 (Int.toNat x2) (fun z => (x1, z.2))) (Int.toNat x2) (fun z => (z.1, ((IntKind.wrap .i64 (x1 + (1 : Int))), z.2.2)))), ()))))
 else
 none
 else
 none
 else
 none
 else
 none
 else
 some (.inr (x1, (x3, ())))
abbrev wf (x0 : (List Mark)) (x1 : Int) : Prop := wfA [(.mut (.sl 0 zk13)), (.val (.int .i64) .f)] (x0, (x1, ()))
noncomputable def raw (x0 : (List Mark)) (x1 : Int) : Option (((List Mark) × Unit) × (Int × Unit)) :=
 if (laws_markMarkS.pre2 (x1, ((0 : Int), (x0, ())))) = true then
 letB (laws_markMarkS.fn2 (x1, ((0 : Int), (x0, ())))) fun v1 =>
 some (v1.2, (v1.1, ()))
 else
 none
theorem ok2 (x1 x2 : Int) (x3 : List Mark) (hp : pre2 (x1, (x2, (x3, ()))) = true) : Rounds pre2 mu2 fn2 (x1, (x2, (x3, ()))) (raw2 x1 x2 x3) := by
 unfold raw2
 by_cases hlt : x2 < (x3.length : Int)
 · obtain ⟨h0, hk, hc, hn⟩ := mk_facts mk_Mark_ok hp hlt zd22
   generalize he : x3.getD x2.toNat zd22 = e at hc
   simp only [cnt_Mark] at hc
   have w0 : IntKind.wrap .i64 (x1 + 1) = x1 + 1 := w64 (by omega) (by omega)
   have w1 : IntKind.wrap .i64 (x1 + 1 + 1) = x1 + 1 + 1 := w64 (by omega) (by omega)
   simp only [letB, List.length_modify, List.modify_modify_eq, getD_modify hn, Function.comp, hlt, h0, he, decide_true, if_true, w0, w1]
   exact mk_step mk_Mark_ok hp hlt zd22 (by rw [he]; simp only [cnt_Mark]; omega) (by rw [he]; rfl)
 · rw [if_neg (by simp [hlt])]; exact mk_end hp hlt
theorem eq (x0 : List Mark) (x1 : Int) (_ : wf x0 x1) (hp : pre x0 x1 = true) : raw x0 x1 = some (((laws_markMarkS x0 x1).1, ()), ((laws_markMarkS x0 x1).2, ())) := by
 unfold raw
 rw [if_pos (show pre2 _ = true from mk_start mk_Mark_ok hp)]
 rfl
end laws_markMarkS
theorem markMarkS_eq (xs : List Mark) (k : Int) : laws_markMarkS xs k = (mkL mk_Mark cnt_Mark xs k, k + cntL cnt_Mark xs) := rfl
theorem markMarkS_pre {xs : List Mark} {k : Int} (h0 : 0 ≤ k) (h1 : k + cntL cnt_Mark xs ≤ 134217728) : laws_markMarkS.pre xs k = true := mPre_iff.2 ⟨h0, h1⟩
noncomputable def laws_heldMarkS (xs : List Mark) (k : Int) : Int := heldN (mkL mk_Mark cnt_Mark) (cntL cnt_Mark) xs k
namespace laws_heldMarkS
def pre (xs : List Mark) (k : Int) : Bool := mPre cnt_Mark xs k
def pre2 := hePre cnt_Mark
noncomputable def fn2 := heFn mk_Mark cnt_Mark
def mu2 := heMu (α := Mark)
noncomputable def raw2 (x1 : (List Mark)) (x2 : Int) (x3 : Int) : Option (((List Mark) × Mark) ⊕ ((Int × Unit) ⊕ (Int × Unit))) :=
 if (decide (x3 < ((List.length x1 : Nat) : Int))) = true then
 if (decide ((0 : Int) ≤ x3)) = true then
 if (decide (x3 < ((List.length x1 : Nat) : Int))) = true then
 if (!(decide ((List.getD x1 (Int.toNat x3) zd22).1 = x2))) = true then
 some (.inr (.inl ((-1 : Int), ())))
 else
 if (decide ((0 : Int) ≤ x3)) = true then
 if (decide (x3 < ((List.length x1 : Nat) : Int))) = true then
 if (!(decide ((List.getD x1 (Int.toNat x3) zd22).2.1 = (IntKind.wrap .i64 (x2 + (1 : Int)))))) = true then
 some (.inr (.inl ((-1 : Int), ())))
 else
 some (.inl (x1, ((IntKind.wrap .i64 ((IntKind.wrap .i64 (x2 + (1 : Int))) + (1 : Int))), ((IntKind.wrap .i64 (x3 + (1 : Int))), ()))))
 else
 none
 else
 none
 else
 none
 else
 none
 else
 some (.inr (.inr (x2, ())))
abbrev wf (x0 : (List Mark)) (x1 : Int) : Prop := wfA [(.val (.sl 0 zk13) .f), (.val (.int .i64) .f)] (x0, (x1, ()))
noncomputable def raw (x0 : (List Mark)) (x1 : Int) : Option zt28 :=
 if (laws_heldMarkS.pre2 (x0, (x1, ((0 : Int), ())))) = true then
  letB (laws_heldMarkS.fn2 (x0, (x1, ((0 : Int), ())))) fun v1 =>
  match v1 with
  | .inl y =>
   some ((), y)
  | .inr y =>
   some ((), y)
 else
  none
theorem ok2 (x1 : List Mark) (x2 x3 : Int) (hp : pre2 (x1, (x2, (x3, ()))) = true) : Rounds pre2 mu2 fn2 (x1, (x2, (x3, ()))) (raw2 x1 x2 x3) := by
 unfold raw2
 by_cases hlt : x3 < (x1.length : Int)
 · obtain ⟨h0, hk, hc⟩ := he_facts mk_Mark_ok hp hlt zd22
   have bad := he_bad (m := mk_Mark) (g := cnt_Mark) hp hlt zd22
   have good := fun K hK => he_good mk_Mark_ok (K := K) hp hlt zd22 hK
   generalize x1.getD x3.toNat zd22 = e at *
   simp only [cnt_Mark] at hc
   have w0 : IntKind.wrap .i64 (x2 + 1) = x2 + 1 := w64 (by omega) (by omega)
   have w1 : IntKind.wrap .i64 (x2 + 1 + 1) = x2 + 1 + 1 := w64 (by omega) (by omega)
   simp only [letB, hlt, h0, decide_true, if_true, w0, w1]
   by_cases c0 : e.1 = x2
   case neg => rw [if_pos (by simp [c0])]; exact bad fun h => c0 (congrArg (fun z : Mark => z.1) h)
   rw [if_neg (by simp [c0])]
   by_cases c1 : e.2.1 = x2 + 1
   case neg => rw [if_pos (by simp [c1])]; exact bad fun h => c1 (congrArg (fun z : Mark => z.2.1) h)
   rw [if_neg (by simp [c1])]
   exact good _ (by simp only [cnt_Mark]; omega) (Prod.ext c0 (Prod.ext c1 rfl))
 · rw [if_neg (by simp [hlt])]; exact he_end hp hlt
theorem eq (x0 : List Mark) (x1 : Int) (_ : wf x0 x1) (hp : pre x0 x1 = true) : raw x0 x1 = some ((), (laws_heldMarkS x0 x1, ())) := by
 unfold raw
 rw [if_pos (show pre2 _ = true from he_start mk_Mark_ok hp)]
 exact heFn_start x0 x1
end laws_heldMarkS
theorem heldMarkS_pos {xs : List Mark} {k : Int} (h : xs = mkL mk_Mark cnt_Mark xs k) : laws_heldMarkS xs k = k + cntL cnt_Mark xs := heldN_pos h
theorem heldMarkS_neg {xs : List Mark} {k : Int} (h : ¬ xs = mkL mk_Mark cnt_Mark xs k) : laws_heldMarkS xs k = -1 := heldN_neg h
theorem heldMarkS_pre {xs : List Mark} {k : Int} (h0 : 0 ≤ k) (h1 : k + cntL cnt_Mark xs ≤ 134217728) : laws_heldMarkS.pre xs k = true := mPre_iff.2 ⟨h0, h1⟩
def mk_Item (_ : Item) (k : Int) : Item := (k, (laws_markText (k + 1), (laws_markText (k + 1 + 1), (k + 1 + 1 + 1, (k + 1 + 1 + 1 + 1, ())))))
def cnt_Item (_ : Item) : Int := 5
theorem mk_Item_ok : MkOk mk_Item cnt_Item := ⟨fun _ => by simp only [cnt_Item]; decide, fun _ _ => rfl, fun _ _ => rfl⟩
noncomputable def laws_eqItem (a b : Item) : Bool := same a b
namespace laws_eqItem
abbrev wf (x0 : Item) (x1 : Item) : Prop := wfA [(.val zk30 .f), (.val zk30 .f)] (x0, (x1, ()))
noncomputable def raw (x0 : Item) (x1 : Item) : Option zt17 :=
 if (!(decide (x0.1 = x1.1))) = true then
 some ((), (false, ()))
 else
 if (!(x0.2.1 == x1.2.1)) = true then
 some ((), (false, ()))
 else
 if (!(x0.2.2.1 == x1.2.2.1)) = true then
 some ((), (false, ()))
 else
 if (!(decide (x0.2.2.2.1 = x1.2.2.2.1))) = true then
 some ((), (false, ()))
 else
 if (!(decide (x0.2.2.2.2.1 = x1.2.2.2.2.1))) = true then
 some ((), (false, ()))
 else
 some ((), (true, ()))
theorem eq (x0 x1 : Item) (_ : wf x0 x1) : raw x0 x1 = some ((), (laws_eqItem x0 x1, ())) := by
 unfold raw laws_eqItem
 try simp only [letB]
 by_cases c0 : x0.1 = x1.1
 case neg => rw [if_pos (by simp [c0]), same_false.2 (fun h => c0 (congrArg (fun z : Item => z.1) h))]
 rw [if_neg (by simp [c0])]
 by_cases c1 : x0.2.1 = x1.2.1
 case neg => rw [if_pos (by simp [c1]), same_false.2 (fun h => c1 (congrArg (fun z : Item => z.2.1) h))]
 rw [if_neg (by simp [c1])]
 by_cases c2 : x0.2.2.1 = x1.2.2.1
 case neg => rw [if_pos (by simp [c2]), same_false.2 (fun h => c2 (congrArg (fun z : Item => z.2.2.1) h))]
 rw [if_neg (by simp [c2])]
 by_cases c3 : x0.2.2.2.1 = x1.2.2.2.1
 case neg => rw [if_pos (by simp [c3]), same_false.2 (fun h => c3 (congrArg (fun z : Item => z.2.2.2.1) h))]
 rw [if_neg (by simp [c3])]
 by_cases c4 : x0.2.2.2.2.1 = x1.2.2.2.2.1
 case neg => rw [if_pos (by simp [c4]), same_false.2 (fun h => c4 (congrArg (fun z : Item => z.2.2.2.2.1) h))]
 rw [if_neg (by simp [c4])]
 rw [same_true.2 (Prod.ext c0 (Prod.ext c1 (Prod.ext c2 (Prod.ext c3 (Prod.ext c4 rfl)))))]
end laws_eqItem
noncomputable def laws_eqItemS (a b : List Item) : Bool := same a b
namespace laws_eqItemS
def pre4 := eqPre (α := Item)
noncomputable def fn4 := eqFn (α := Item)
def mu4 := eqMu (α := Item)
noncomputable def raw4 (x1 : (List Item)) (x2 : (List Item)) (x3 : Int) : Option (((List Item) × ((List Item) × (Int × Unit))) ⊕ ((Bool × Unit) ⊕ Unit)) :=
 if (decide (x3 < ((List.length x1 : Nat) : Int))) = true then
 if (decide ((0 : Int) ≤ x3)) = true then
 if (decide (x3 < ((List.length x1 : Nat) : Int))) = true then
 if (decide ((0 : Int) ≤ x3)) = true then
 if (decide (x3 < ((List.length x2 : Nat) : Int))) = true then
 letB (laws_eqItem (List.getD x1 (Int.toNat x3) zd10) (List.getD x2 (Int.toNat x3) zd10)) fun v1 =>
 if (!v1) = true then
 some (.inr (.inl (false, ())))
 else
 some (.inl (x1, (x2, ((IntKind.wrap .i64 (x3 + (1 : Int))), ()))))
 else
 none
 else
 none
 else
 none
 else
 none
 else
 some (.inr (.inr ()))
abbrev wf (x0 : (List Item)) (x1 : (List Item)) : Prop := wfA [(.val (.sl 0 zk30) .f), (.val (.sl 0 zk30) .f)] (x0, (x1, ()))
noncomputable def raw (x0 : (List Item)) (x1 : (List Item)) : Option zt17 :=
 if (!(decide (((List.length x0 : Nat) : Int) = ((List.length x1 : Nat) : Int)))) = true then
  some ((), (false, ()))
 else
  if (laws_eqItemS.pre4 (x0, (x1, ((0 : Int), ())))) = true then
   letB (laws_eqItemS.fn4 (x0, (x1, ((0 : Int), ())))) fun v1 =>
   match v1 with
   | .inl y =>
    some ((), y)
   | .inr y =>
    some ((), (true, ()))
  else
   none
theorem ok4 (x1 x2 : List Item) (x3 : Int) (hp : pre4 (x1, (x2, (x3, ()))) = true) : Rounds pre4 mu4 fn4 (x1, (x2, (x3, ()))) (raw4 x1 x2 x3) := by
 unfold raw4
 by_cases hlt : x3 < (x1.length : Int)
 · obtain ⟨h1, h2, h3, h4⟩ := eq_next hp hlt zd10
   simp only [letB, hlt, h1, h2, decide_true, if_true]
   by_cases h : x1.getD x3.toNat zd10 = x2.getD x3.toNat zd10
   · rw [if_neg (by rw [laws_eqItem, same_true.2 h]; simp)]; exact h3 h
   · rw [if_pos (by rw [laws_eqItem, same_false.2 h]; rfl)]; exact h4 h
 · simp only [hlt, decide_false, Bool.false_eq_true, if_false]
   exact eq_end hp hlt
theorem eq (x0 x1 : List Item) (hw : wf x0 x1) : raw x0 x1 = some ((), (laws_eqItemS x0 x1, ())) := by
 have h1 : x0.length ≤ maxLen := hw.1.1
 unfold raw laws_eqItemS
 by_cases hl : (x0.length : Int) = (x1.length : Int)
 · rw [if_neg (by simp [hl]), if_pos (show pre4 _ = true from eq_start h1 hl)]
   unfold fn4
   by_cases he : x0 = x1
   · rw [eqFn_eq he, same_true.2 he]; rfl
   · rw [eqFn_ne he, same_false.2 he]; rfl
 · have : ¬ x0 = x1 := fun h => hl (by rw [h])
   rw [if_pos (by simp [hl]), same_false.2 this]
end laws_eqItemS
def laws_markItemS (xs : List Item) (k : Int) : List Item × Int := (mkL mk_Item cnt_Item xs k, k + cntL cnt_Item xs)
namespace laws_markItemS
def pre (xs : List Item) (k : Int) : Bool := mPre cnt_Item xs k
def pre2 := mkPre cnt_Item
def fn2 := mkFn mk_Item cnt_Item
def mu2 := mkMu (α := Item)
noncomputable def raw2 (x1 : Int) (x2 : Int) (x3 : (List Item)) : Option (Row ⊕ (Int × ((List Item) × Unit))) :=
 if (decide (x2 < ((List.length x3 : Nat) : Int))) = true then
 if (decide ((0 : Int) ≤ x2)) = true then
 if (decide (x2 < ((List.length x3 : Nat) : Int))) = true then
 if (laws_markText.pre (IntKind.wrap .i64 (x1 + (1 : Int)))) = true then
 if (decide ((0 : Int) ≤ x2)) = true then
 if (decide (x2 < ((List.length (List.modify x3 (Int.toNat x2) (fun z => (x1, z.2))) : Nat) : Int))) = true then
 if (laws_markText.pre (IntKind.wrap .i64 ((IntKind.wrap .i64 (x1 + (1 : Int))) + (1 : Int)))) = true then
 if (decide ((0 : Int) ≤ x2)) = true then
 if (decide (x2 < ((List.length (List.modify (List.modify x3 (Int.toNat x2) (fun z => (x1, z.2))) (Int.toNat x2) (fun z => (z.1, ((laws_markText (IntKind.wrap .i64 (x1 + (1 : Int)))), z.2.2)))) : Nat) : Int))) = true then
 if (decide ((0 : Int) ≤ x2)) = true then
 if (decide (x2 < ((List.length (List.modify (List.modify (List.modify x3 (Int.toNat x2) (fun z => (x1, z.2))) (Int.toNat x2) (fun z => (z.1, ((laws_markText (IntKind.wrap .i64 (x1 + (1 : Int)))), z.2.2)))) (Int.toNat x2) (fun z => (z.1, (z.2.1, ((laws_markText (IntKind.wrap .i64 ((IntKind.wrap .i64 (x1 + (1 : Int))) + (1 : Int)))), z.2.2.2))))) : Nat) : Int))) = true then
 if (decide ((0 : Int) ≤ x2)) = true then
 if (decide (x2 < ((List.length (List.modify (List.modify (List.modify (List.modify x3 (Int.toNat x2) (fun z => (x1, z.2))) (Int.toNat x2) (fun z => (z.1, ((laws_markText (IntKind.wrap .i64 (x1 + (1 : Int)))), z.2.2)))) (Int.toNat x2) (fun z => (z.1, (z.2.1, ((laws_markText (IntKind.wrap .i64 ((IntKind.wrap .i64 (x1 + (1 : Int))) + (1 : Int)))), z.2.2.2))))) (Int.toNat x2) (fun z => (z.1, (z.2.1, (z.2.2.1, ((IntKind.wrap .i64 ((IntKind.wrap .i64 ((IntKind.wrap .i64 (x1 + (1 : Int))) + (1 : Int))) + (1 : Int))), z.2.2.2.2)))))) : Nat) : Int))) = true then
 some (.inl ((IntKind.wrap .i64 ((IntKind.wrap .i64 ((IntKind.wrap .i64 ((IntKind.wrap .i64 ((IntKind.wrap .i64 (x1 + (1 : Int))) + (1 : Int))) + (1 : Int))) + (1 : Int))) + (1 : Int))), ((IntKind.wrap .i64 (x2 + (1 : Int))), ((List.modify (List.modify (List.modify (List.modify (List.modify x3 (Int.toNat x2) (fun z => (x1, z.2))) (Int.toNat x2) (fun z => (z.1, ((laws_markText (IntKind.wrap .i64 (x1 + (1 : Int)))), z.2.2)))) (Int.toNat x2) (fun z => (z.1, (z.2.1, ((laws_markText (IntKind.wrap .i64 ((IntKind.wrap .i64 (x1 + (1 : Int))) + (1 : Int)))), z.2.2.2))))) (Int.toNat x2) (fun z => (z.1, (z.2.1, (z.2.2.1, ((IntKind.wrap .i64 ((IntKind.wrap .i64 ((IntKind.wrap .i64 (x1 + (1 : Int))) + (1 : Int))) + (1 : Int))), z.2.2.2.2)))))) (Int.toNat x2) (fun z => (z.1, (z.2.1, (z.2.2.1, (z.2.2.2.1, ((IntKind.wrap .i64 ((IntKind.wrap .i64 ((IntKind.wrap .i64 ((IntKind.wrap .i64 (x1 + (1 : Int))) + (1 : Int))) + (1 : Int))) + (1 : Int))), z.2.2.2.2.2))))))), ()))))
 else
 none
 else
 none
 else
 none
 else
 none
 else
 none
 else
 none
 else
 none
 else
 none
 else
 none
 else
 none
 else
 none
 else
 none
 else
 some (.inr (x1, (x3, ())))
abbrev wf (x0 : (List Item)) (x1 : Int) : Prop := wfA [(.mut (.sl 0 zk30)), (.val (.int .i64) .f)] (x0, (x1, ()))
noncomputable def raw (x0 : (List Item)) (x1 : Int) : Option (((List Item) × Unit) × (Int × Unit)) :=
 if (laws_markItemS.pre2 (x1, ((0 : Int), (x0, ())))) = true then
 letB (laws_markItemS.fn2 (x1, ((0 : Int), (x0, ())))) fun v1 =>
 some (v1.2, (v1.1, ()))
 else
 none
theorem ok2 (x1 x2 : Int) (x3 : List Item) (hp : pre2 (x1, (x2, (x3, ()))) = true) : Rounds pre2 mu2 fn2 (x1, (x2, (x3, ()))) (raw2 x1 x2 x3) := by
 unfold raw2
 by_cases hlt : x2 < (x3.length : Int)
 · obtain ⟨h0, hk, hc, hn⟩ := mk_facts mk_Item_ok hp hlt zd10
   generalize he : x3.getD x2.toNat zd10 = e at hc
   simp only [cnt_Item] at hc
   have w0 : IntKind.wrap .i64 (x1 + 1) = x1 + 1 := w64 (by omega) (by omega)
   have w1 : IntKind.wrap .i64 (x1 + 1 + 1) = x1 + 1 + 1 := w64 (by omega) (by omega)
   have p1 : laws_markText.pre (x1 + 1) = true := by simp only [laws_markText.pre, decide_eq_true_eq]; omega
   have w2 : IntKind.wrap .i64 (x1 + 1 + 1 + 1) = x1 + 1 + 1 + 1 := w64 (by omega) (by omega)
   have p2 : laws_markText.pre (x1 + 1 + 1) = true := by simp only [laws_markText.pre, decide_eq_true_eq]; omega
   have w3 : IntKind.wrap .i64 (x1 + 1 + 1 + 1 + 1) = x1 + 1 + 1 + 1 + 1 := w64 (by omega) (by omega)
   have w4 : IntKind.wrap .i64 (x1 + 1 + 1 + 1 + 1 + 1) = x1 + 1 + 1 + 1 + 1 + 1 := w64 (by omega) (by omega)
   simp only [letB, List.length_modify, List.modify_modify_eq, getD_modify hn, Function.comp, hlt, h0, he, decide_true, if_true, w0, w1, p1, w2, p2, w3, w4]
   exact mk_step mk_Item_ok hp hlt zd10 (by rw [he]; simp only [cnt_Item]; omega) (by rw [he]; rfl)
 · rw [if_neg (by simp [hlt])]; exact mk_end hp hlt
theorem eq (x0 : List Item) (x1 : Int) (_ : wf x0 x1) (hp : pre x0 x1 = true) : raw x0 x1 = some (((laws_markItemS x0 x1).1, ()), ((laws_markItemS x0 x1).2, ())) := by
 unfold raw
 rw [if_pos (show pre2 _ = true from mk_start mk_Item_ok hp)]
 rfl
end laws_markItemS
theorem markItemS_eq (xs : List Item) (k : Int) : laws_markItemS xs k = (mkL mk_Item cnt_Item xs k, k + cntL cnt_Item xs) := rfl
theorem markItemS_pre {xs : List Item} {k : Int} (h0 : 0 ≤ k) (h1 : k + cntL cnt_Item xs ≤ 134217728) : laws_markItemS.pre xs k = true := mPre_iff.2 ⟨h0, h1⟩
noncomputable def laws_heldItemS (xs : List Item) (k : Int) : Int := heldN (mkL mk_Item cnt_Item) (cntL cnt_Item) xs k
namespace laws_heldItemS
def pre (xs : List Item) (k : Int) : Bool := mPre cnt_Item xs k
def pre2 := hePre cnt_Item
noncomputable def fn2 := heFn mk_Item cnt_Item
def mu2 := heMu (α := Item)
noncomputable def raw2 (x1 : (List Item)) (x2 : Int) (x3 : Int) : Option (((List Item) × Mark) ⊕ ((Int × Unit) ⊕ (Int × Unit))) :=
 if (decide (x3 < ((List.length x1 : Nat) : Int))) = true then
 if (decide ((0 : Int) ≤ x3)) = true then
 if (decide (x3 < ((List.length x1 : Nat) : Int))) = true then
 if (!(decide ((List.getD x1 (Int.toNat x3) zd10).1 = x2))) = true then
 some (.inr (.inl ((-1 : Int), ())))
 else
 if (decide ((0 : Int) ≤ x3)) = true then
 if (decide (x3 < ((List.length x1 : Nat) : Int))) = true then
 if (laws_markText.pre (IntKind.wrap .i64 (x2 + (1 : Int)))) = true then
 letB (laws_markText (IntKind.wrap .i64 (x2 + (1 : Int)))) fun v1 =>
 if (!((List.getD x1 (Int.toNat x3) zd10).2.1 == v1)) = true then
 some (.inr (.inl ((-1 : Int), ())))
 else
 if (decide ((0 : Int) ≤ x3)) = true then
 if (decide (x3 < ((List.length x1 : Nat) : Int))) = true then
 if (laws_markText.pre (IntKind.wrap .i64 ((IntKind.wrap .i64 (x2 + (1 : Int))) + (1 : Int)))) = true then
 letB (laws_markText (IntKind.wrap .i64 ((IntKind.wrap .i64 (x2 + (1 : Int))) + (1 : Int)))) fun v2 =>
 if (!((List.getD x1 (Int.toNat x3) zd10).2.2.1 == v2)) = true then
 some (.inr (.inl ((-1 : Int), ())))
 else
 if (decide ((0 : Int) ≤ x3)) = true then
 if (decide (x3 < ((List.length x1 : Nat) : Int))) = true then
 if (!(decide ((List.getD x1 (Int.toNat x3) zd10).2.2.2.1 = (IntKind.wrap .i64 ((IntKind.wrap .i64 ((IntKind.wrap .i64 (x2 + (1 : Int))) + (1 : Int))) + (1 : Int)))))) = true then
 some (.inr (.inl ((-1 : Int), ())))
 else
 if (decide ((0 : Int) ≤ x3)) = true then
 if (decide (x3 < ((List.length x1 : Nat) : Int))) = true then
 if (!(decide ((List.getD x1 (Int.toNat x3) zd10).2.2.2.2.1 = (IntKind.wrap .i64 ((IntKind.wrap .i64 ((IntKind.wrap .i64 ((IntKind.wrap .i64 (x2 + (1 : Int))) + (1 : Int))) + (1 : Int))) + (1 : Int)))))) = true then
 some (.inr (.inl ((-1 : Int), ())))
 else
 some (.inl (x1, ((IntKind.wrap .i64 ((IntKind.wrap .i64 ((IntKind.wrap .i64 ((IntKind.wrap .i64 ((IntKind.wrap .i64 (x2 + (1 : Int))) + (1 : Int))) + (1 : Int))) + (1 : Int))) + (1 : Int))), ((IntKind.wrap .i64 (x3 + (1 : Int))), ()))))
 else
 none
 else
 none
 else
 none
 else
 none
 else
 none
 else
 none
 else
 none
 else
 none
 else
 none
 else
 none
 else
 none
 else
 none
 else
 some (.inr (.inr (x2, ())))
abbrev wf (x0 : (List Item)) (x1 : Int) : Prop := wfA [(.val (.sl 0 zk30) .f), (.val (.int .i64) .f)] (x0, (x1, ()))
noncomputable def raw (x0 : (List Item)) (x1 : Int) : Option zt28 :=
 if (laws_heldItemS.pre2 (x0, (x1, ((0 : Int), ())))) = true then
  letB (laws_heldItemS.fn2 (x0, (x1, ((0 : Int), ())))) fun v1 =>
  match v1 with
  | .inl y =>
   some ((), y)
  | .inr y =>
   some ((), y)
 else
  none
theorem ok2 (x1 : List Item) (x2 x3 : Int) (hp : pre2 (x1, (x2, (x3, ()))) = true) : Rounds pre2 mu2 fn2 (x1, (x2, (x3, ()))) (raw2 x1 x2 x3) := by
 unfold raw2
 by_cases hlt : x3 < (x1.length : Int)
 · obtain ⟨h0, hk, hc⟩ := he_facts mk_Item_ok hp hlt zd10
   have bad := he_bad (m := mk_Item) (g := cnt_Item) hp hlt zd10
   have good := fun K hK => he_good mk_Item_ok (K := K) hp hlt zd10 hK
   generalize x1.getD x3.toNat zd10 = e at *
   simp only [cnt_Item] at hc
   have w0 : IntKind.wrap .i64 (x2 + 1) = x2 + 1 := w64 (by omega) (by omega)
   have w1 : IntKind.wrap .i64 (x2 + 1 + 1) = x2 + 1 + 1 := w64 (by omega) (by omega)
   have p1 : laws_markText.pre (x2 + 1) = true := by simp only [laws_markText.pre, decide_eq_true_eq]; omega
   have w2 : IntKind.wrap .i64 (x2 + 1 + 1 + 1) = x2 + 1 + 1 + 1 := w64 (by omega) (by omega)
   have p2 : laws_markText.pre (x2 + 1 + 1) = true := by simp only [laws_markText.pre, decide_eq_true_eq]; omega
   have w3 : IntKind.wrap .i64 (x2 + 1 + 1 + 1 + 1) = x2 + 1 + 1 + 1 + 1 := w64 (by omega) (by omega)
   have w4 : IntKind.wrap .i64 (x2 + 1 + 1 + 1 + 1 + 1) = x2 + 1 + 1 + 1 + 1 + 1 := w64 (by omega) (by omega)
   simp only [letB, hlt, h0, decide_true, if_true, w0, w1, p1, w2, p2, w3, w4]
   by_cases c0 : e.1 = x2
   case neg => rw [if_pos (by simp [c0])]; exact bad fun h => c0 (congrArg (fun z : Item => z.1) h)
   rw [if_neg (by simp [c0])]
   by_cases c1 : e.2.1 = laws_markText (x2 + 1)
   case neg => rw [if_pos (by simp [c1])]; exact bad fun h => c1 (congrArg (fun z : Item => z.2.1) h)
   rw [if_neg (by simp [c1])]
   by_cases c2 : e.2.2.1 = laws_markText (x2 + 1 + 1)
   case neg => rw [if_pos (by simp [c2])]; exact bad fun h => c2 (congrArg (fun z : Item => z.2.2.1) h)
   rw [if_neg (by simp [c2])]
   by_cases c3 : e.2.2.2.1 = x2 + 1 + 1 + 1
   case neg => rw [if_pos (by simp [c3])]; exact bad fun h => c3 (congrArg (fun z : Item => z.2.2.2.1) h)
   rw [if_neg (by simp [c3])]
   by_cases c4 : e.2.2.2.2.1 = x2 + 1 + 1 + 1 + 1
   case neg => rw [if_pos (by simp [c4])]; exact bad fun h => c4 (congrArg (fun z : Item => z.2.2.2.2.1) h)
   rw [if_neg (by simp [c4])]
   exact good _ (by simp only [cnt_Item]; omega) (Prod.ext c0 (Prod.ext c1 (Prod.ext c2 (Prod.ext c3 (Prod.ext c4 rfl)))))
 · rw [if_neg (by simp [hlt])]; exact he_end hp hlt
theorem eq (x0 : List Item) (x1 : Int) (_ : wf x0 x1) (hp : pre x0 x1 = true) : raw x0 x1 = some ((), (laws_heldItemS x0 x1, ())) := by
 unfold raw
 rw [if_pos (show pre2 _ = true from he_start mk_Item_ok hp)]
 exact heFn_start x0 x1
end laws_heldItemS
theorem heldItemS_pos {xs : List Item} {k : Int} (h : xs = mkL mk_Item cnt_Item xs k) : laws_heldItemS xs k = k + cntL cnt_Item xs := heldN_pos h
theorem heldItemS_neg {xs : List Item} {k : Int} (h : ¬ xs = mkL mk_Item cnt_Item xs k) : laws_heldItemS xs k = -1 := heldN_neg h
theorem heldItemS_pre {xs : List Item} {k : Int} (h0 : 0 ≤ k) (h1 : k + cntL cnt_Item xs ≤ 134217728) : laws_heldItemS.pre xs k = true := mPre_iff.2 ⟨h0, h1⟩
def mk_Row (x : Row) (k : Int) : Row := (k, (k + 1, (mkL mk_Item cnt_Item x.2.2.1 (k + 1 + 1), ())))
def cnt_Row (x : Row) : Int := 2 + cntL cnt_Item x.2.2.1
theorem mk_Row_ok : MkOk mk_Row cnt_Row := by
 refine ⟨fun x => ?_, fun x k => ?_, fun x k => ?_⟩
 · have n2 := cntL_nn mk_Item_ok x.2.2.1
   simp only [cnt_Row]; omega
 · simp only [cnt_Row, mk_Row, cntL_mkL mk_Item_ok]
 · simp only [mk_Row, cntL_mkL mk_Item_ok, mkL_mkL mk_Item_ok]
noncomputable def laws_eqRow (a b : Row) : Bool := same a b
namespace laws_eqRow
abbrev wf (x0 : Row) (x1 : Row) : Prop := wfA [(.val zk18 .f), (.val zk18 .f)] (x0, (x1, ()))
noncomputable def raw (x0 : Row) (x1 : Row) : Option zt17 :=
 if (!(decide (x0.1 = x1.1))) = true then
 some ((), (false, ()))
 else
 if (!(decide (x0.2.1 = x1.2.1))) = true then
 some ((), (false, ()))
 else
 letB (laws_eqItemS x0.2.2.1 x1.2.2.1) fun v1 =>
 if (!v1) = true then
 some ((), (false, ()))
 else
 some ((), (true, ()))
theorem eq (x0 x1 : Row) (_ : wf x0 x1) : raw x0 x1 = some ((), (laws_eqRow x0 x1, ())) := by
 unfold raw laws_eqRow
 try simp only [letB]
 by_cases c0 : x0.1 = x1.1
 case neg => rw [if_pos (by simp [c0]), same_false.2 (fun h => c0 (congrArg (fun z : Row => z.1) h))]
 rw [if_neg (by simp [c0])]
 by_cases c1 : x0.2.1 = x1.2.1
 case neg => rw [if_pos (by simp [c1]), same_false.2 (fun h => c1 (congrArg (fun z : Row => z.2.1) h))]
 rw [if_neg (by simp [c1])]
 by_cases c2 : x0.2.2.1 = x1.2.2.1
 case neg => rw [if_pos (by rw [laws_eqItemS, same_false.2 c2]; rfl), same_false.2 (fun h => c2 (congrArg (fun z : Row => z.2.2.1) h))]
 rw [if_neg (by rw [laws_eqItemS, same_true.2 c2]; simp)]
 rw [same_true.2 (Prod.ext c0 (Prod.ext c1 (Prod.ext c2 rfl)))]
end laws_eqRow
noncomputable def laws_eqRowS (a b : List Row) : Bool := same a b
namespace laws_eqRowS
def pre4 := eqPre (α := Row)
noncomputable def fn4 := eqFn (α := Row)
def mu4 := eqMu (α := Row)
noncomputable def raw4 (x1 : (List Row)) (x2 : (List Row)) (x3 : Int) : Option (((List Row) × ((List Row) × (Int × Unit))) ⊕ ((Bool × Unit) ⊕ Unit)) :=
 if (decide (x3 < ((List.length x1 : Nat) : Int))) = true then
 if (decide ((0 : Int) ≤ x3)) = true then
 if (decide (x3 < ((List.length x1 : Nat) : Int))) = true then
 if (decide ((0 : Int) ≤ x3)) = true then
 if (decide (x3 < ((List.length x2 : Nat) : Int))) = true then
 letB (laws_eqRow (List.getD x1 (Int.toNat x3) zd16) (List.getD x2 (Int.toNat x3) zd16)) fun v1 =>
 if (!v1) = true then
 some (.inr (.inl (false, ())))
 else
 some (.inl (x1, (x2, ((IntKind.wrap .i64 (x3 + (1 : Int))), ()))))
 else
 none
 else
 none
 else
 none
 else
 none
 else
 some (.inr (.inr ()))
abbrev wf (x0 : (List Row)) (x1 : (List Row)) : Prop := wfA [(.val (.sl 0 zk18) .f), (.val (.sl 0 zk18) .f)] (x0, (x1, ()))
noncomputable def raw (x0 : (List Row)) (x1 : (List Row)) : Option zt17 :=
 if (!(decide (((List.length x0 : Nat) : Int) = ((List.length x1 : Nat) : Int)))) = true then
  some ((), (false, ()))
 else
  if (laws_eqRowS.pre4 (x0, (x1, ((0 : Int), ())))) = true then
   letB (laws_eqRowS.fn4 (x0, (x1, ((0 : Int), ())))) fun v1 =>
   match v1 with
   | .inl y =>
    some ((), y)
   | .inr y =>
    some ((), (true, ()))
  else
   none
theorem ok4 (x1 x2 : List Row) (x3 : Int) (hp : pre4 (x1, (x2, (x3, ()))) = true) : Rounds pre4 mu4 fn4 (x1, (x2, (x3, ()))) (raw4 x1 x2 x3) := by
 unfold raw4
 by_cases hlt : x3 < (x1.length : Int)
 · obtain ⟨h1, h2, h3, h4⟩ := eq_next hp hlt zd16
   simp only [letB, hlt, h1, h2, decide_true, if_true]
   by_cases h : x1.getD x3.toNat zd16 = x2.getD x3.toNat zd16
   · rw [if_neg (by rw [laws_eqRow, same_true.2 h]; simp)]; exact h3 h
   · rw [if_pos (by rw [laws_eqRow, same_false.2 h]; rfl)]; exact h4 h
 · simp only [hlt, decide_false, Bool.false_eq_true, if_false]
   exact eq_end hp hlt
theorem eq (x0 x1 : List Row) (hw : wf x0 x1) : raw x0 x1 = some ((), (laws_eqRowS x0 x1, ())) := by
 have h1 : x0.length ≤ maxLen := hw.1.1
 unfold raw laws_eqRowS
 by_cases hl : (x0.length : Int) = (x1.length : Int)
 · rw [if_neg (by simp [hl]), if_pos (show pre4 _ = true from eq_start h1 hl)]
   unfold fn4
   by_cases he : x0 = x1
   · rw [eqFn_eq he, same_true.2 he]; rfl
   · rw [eqFn_ne he, same_false.2 he]; rfl
 · have : ¬ x0 = x1 := fun h => hl (by rw [h])
   rw [if_pos (by simp [hl]), same_false.2 this]
end laws_eqRowS
def laws_markRowS (xs : List Row) (k : Int) : List Row × Int := (mkL mk_Row cnt_Row xs k, k + cntL cnt_Row xs)
namespace laws_markRowS
def pre (xs : List Row) (k : Int) : Bool := mPre cnt_Row xs k
def pre2 := mkPre cnt_Row
def fn2 := mkFn mk_Row cnt_Row
def mu2 := mkMu (α := Row)
noncomputable def raw2 (x1 : Int) (x2 : Int) (x3 : (List Row)) : Option ((Int × (Int × ((List Row) × Unit))) ⊕ (Int × ((List Row) × Unit))) :=
 if (decide (x2 < ((List.length x3 : Nat) : Int))) = true then
 if (decide ((0 : Int) ≤ x2)) = true then
 if (decide (x2 < ((List.length x3 : Nat) : Int))) = true then
 if (decide ((0 : Int) ≤ x2)) = true then
 if (decide (x2 < ((List.length (List.modify x3 (Int.toNat x2) (fun z => (x1, z.2))) : Nat) : Int))) = true then
 if (decide ((0 : Int) ≤ x2)) = true then
 if (decide (x2 < ((List.length (List.modify (List.modify x3 (Int.toNat x2) (fun z => (x1, z.2))) (Int.toNat x2) (fun z => (z.1, ((IntKind.wrap .i64 (x1 + (1 : Int))), z.2.2)))) : Nat) : Int))) = true then
 if (laws_markItemS.pre (List.getD (List.modify (List.modify x3 (Int.toNat x2) (fun z => (x1, z.2))) (Int.toNat x2) (fun z => (z.1, ((IntKind.wrap .i64 (x1 + (1 : Int))), z.2.2)))) (Int.toNat x2) zd16).2.2.1 (IntKind.wrap .i64 ((IntKind.wrap .i64 (x1 + (1 : Int))) + (1 : Int)))) = true then
 letB (laws_markItemS (List.getD (List.modify (List.modify x3 (Int.toNat x2) (fun z => (x1, z.2))) (Int.toNat x2) (fun z => (z.1, ((IntKind.wrap .i64 (x1 + (1 : Int))), z.2.2)))) (Int.toNat x2) zd16).2.2.1 (IntKind.wrap .i64 ((IntKind.wrap .i64 (x1 + (1 : Int))) + (1 : Int)))) fun v1 =>
 some (.inl (v1.2, ((IntKind.wrap .i64 (x2 + (1 : Int))), ((List.modify (List.modify (List.modify x3 (Int.toNat x2) (fun z => (x1, z.2))) (Int.toNat x2) (fun z => (z.1, ((IntKind.wrap .i64 (x1 + (1 : Int))), z.2.2)))) (Int.toNat x2) (fun z => (z.1, (z.2.1, (v1.1, z.2.2.2))))), ()))))
 else
 none
 else
 none
 else
 none
 else
 none
 else
 none
 else
 none
 else
 none
 else
 some (.inr (x1, (x3, ())))
abbrev wf (x0 : (List Row)) (x1 : Int) : Prop := wfA [(.mut (.sl 0 zk18)), (.val (.int .i64) .f)] (x0, (x1, ()))
noncomputable def raw (x0 : (List Row)) (x1 : Int) : Option (((List Row) × Unit) × (Int × Unit)) :=
 if (laws_markRowS.pre2 (x1, ((0 : Int), (x0, ())))) = true then
 letB (laws_markRowS.fn2 (x1, ((0 : Int), (x0, ())))) fun v1 =>
 some (v1.2, (v1.1, ()))
 else
 none
theorem ok2 (x1 x2 : Int) (x3 : List Row) (hp : pre2 (x1, (x2, (x3, ()))) = true) : Rounds pre2 mu2 fn2 (x1, (x2, (x3, ()))) (raw2 x1 x2 x3) := by
 unfold raw2
 by_cases hlt : x2 < (x3.length : Int)
 · obtain ⟨h0, hk, hc, hn⟩ := mk_facts mk_Row_ok hp hlt zd16
   generalize he : x3.getD x2.toNat zd16 = e at hc
   simp only [cnt_Row] at hc
   have n2 := cntL_nn mk_Item_ok e.2.2.1
   have w0 : IntKind.wrap .i64 (x1 + 1) = x1 + 1 := w64 (by omega) (by omega)
   have w1 : IntKind.wrap .i64 (x1 + 1 + 1) = x1 + 1 + 1 := w64 (by omega) (by omega)
   have q2 : laws_markItemS.pre e.2.2.1 (x1 + 1 + 1) = true := markItemS_pre (by omega) (by omega)
   simp only [letB, List.length_modify, List.modify_modify_eq, getD_modify hn, Function.comp, hlt, h0, he, decide_true, if_true, w0, w1, q2, markItemS_eq]
   exact mk_step mk_Row_ok hp hlt zd16 (by rw [he]; simp only [cnt_Row]; omega) (by rw [he]; rfl)
 · rw [if_neg (by simp [hlt])]; exact mk_end hp hlt
theorem eq (x0 : List Row) (x1 : Int) (_ : wf x0 x1) (hp : pre x0 x1 = true) : raw x0 x1 = some (((laws_markRowS x0 x1).1, ()), ((laws_markRowS x0 x1).2, ())) := by
 unfold raw
 rw [if_pos (show pre2 _ = true from mk_start mk_Row_ok hp)]
 rfl
end laws_markRowS
theorem markRowS_eq (xs : List Row) (k : Int) : laws_markRowS xs k = (mkL mk_Row cnt_Row xs k, k + cntL cnt_Row xs) := rfl
theorem markRowS_pre {xs : List Row} {k : Int} (h0 : 0 ≤ k) (h1 : k + cntL cnt_Row xs ≤ 134217728) : laws_markRowS.pre xs k = true := mPre_iff.2 ⟨h0, h1⟩
noncomputable def laws_heldRowS (xs : List Row) (k : Int) : Int := heldN (mkL mk_Row cnt_Row) (cntL cnt_Row) xs k
namespace laws_heldRowS
def pre (xs : List Row) (k : Int) : Bool := mPre cnt_Row xs k
def pre2 := hePre cnt_Row
noncomputable def fn2 := heFn mk_Row cnt_Row
def mu2 := heMu (α := Row)
noncomputable def raw2 (x1 : (List Row)) (x2 : Int) (x3 : Int) : Option (((List Row) × Mark) ⊕ ((Int × Unit) ⊕ (Int × Unit))) :=
 if (decide (x3 < ((List.length x1 : Nat) : Int))) = true then
 if (decide ((0 : Int) ≤ x3)) = true then
 if (decide (x3 < ((List.length x1 : Nat) : Int))) = true then
 if (!(decide ((List.getD x1 (Int.toNat x3) zd16).1 = x2))) = true then
 some (.inr (.inl ((-1 : Int), ())))
 else
 if (decide ((0 : Int) ≤ x3)) = true then
 if (decide (x3 < ((List.length x1 : Nat) : Int))) = true then
 if (!(decide ((List.getD x1 (Int.toNat x3) zd16).2.1 = (IntKind.wrap .i64 (x2 + (1 : Int)))))) = true then
 some (.inr (.inl ((-1 : Int), ())))
 else
 if (decide ((0 : Int) ≤ x3)) = true then
 if (decide (x3 < ((List.length x1 : Nat) : Int))) = true then
 if (laws_heldItemS.pre (List.getD x1 (Int.toNat x3) zd16).2.2.1 (IntKind.wrap .i64 ((IntKind.wrap .i64 (x2 + (1 : Int))) + (1 : Int)))) = true then
 letB (laws_heldItemS (List.getD x1 (Int.toNat x3) zd16).2.2.1 (IntKind.wrap .i64 ((IntKind.wrap .i64 (x2 + (1 : Int))) + (1 : Int)))) fun v1 =>
 if (decide (v1 < (0 : Int))) = true then
 some (.inr (.inl ((-1 : Int), ())))
 else
 some (.inl (x1, (v1, ((IntKind.wrap .i64 (x3 + (1 : Int))), ()))))
 else
 none
 else
 none
 else
 none
 else
 none
 else
 none
 else
 none
 else
 none
 else
 some (.inr (.inr (x2, ())))
abbrev wf (x0 : (List Row)) (x1 : Int) : Prop := wfA [(.val (.sl 0 zk18) .f), (.val (.int .i64) .f)] (x0, (x1, ()))
noncomputable def raw (x0 : (List Row)) (x1 : Int) : Option zt28 :=
 if (laws_heldRowS.pre2 (x0, (x1, ((0 : Int), ())))) = true then
  letB (laws_heldRowS.fn2 (x0, (x1, ((0 : Int), ())))) fun v1 =>
  match v1 with
  | .inl y =>
   some ((), y)
  | .inr y =>
   some ((), y)
 else
  none
theorem ok2 (x1 : List Row) (x2 x3 : Int) (hp : pre2 (x1, (x2, (x3, ()))) = true) : Rounds pre2 mu2 fn2 (x1, (x2, (x3, ()))) (raw2 x1 x2 x3) := by
 unfold raw2
 by_cases hlt : x3 < (x1.length : Int)
 · obtain ⟨h0, hk, hc⟩ := he_facts mk_Row_ok hp hlt zd16
   have bad := he_bad (m := mk_Row) (g := cnt_Row) hp hlt zd16
   have good := fun K hK => he_good mk_Row_ok (K := K) hp hlt zd16 hK
   generalize x1.getD x3.toNat zd16 = e at *
   simp only [cnt_Row] at hc
   have n2 := cntL_nn mk_Item_ok e.2.2.1
   have w0 : IntKind.wrap .i64 (x2 + 1) = x2 + 1 := w64 (by omega) (by omega)
   have w1 : IntKind.wrap .i64 (x2 + 1 + 1) = x2 + 1 + 1 := w64 (by omega) (by omega)
   have q2 : laws_heldItemS.pre e.2.2.1 (x2 + 1 + 1) = true := heldItemS_pre (by omega) (by omega)
   simp only [letB, hlt, h0, decide_true, if_true, w0, w1, q2]
   by_cases c0 : e.1 = x2
   case neg => rw [if_pos (by simp [c0])]; exact bad fun h => c0 (congrArg (fun z : Row => z.1) h)
   rw [if_neg (by simp [c0])]
   by_cases c1 : e.2.1 = x2 + 1
   case neg => rw [if_pos (by simp [c1])]; exact bad fun h => c1 (congrArg (fun z : Row => z.2.1) h)
   rw [if_neg (by simp [c1])]
   by_cases c2 : e.2.2.1 = mkL mk_Item cnt_Item e.2.2.1 (x2 + 1 + 1)
   case neg => rw [show laws_heldItemS e.2.2.1 (x2 + 1 + 1) = -1 from heldItemS_neg c2, if_pos (by decide)]; exact bad fun h => c2 ((congrArg (fun z : Row => z.2.2.1) h).trans (by simp only [mk_Row]))
   rw [show laws_heldItemS e.2.2.1 (x2 + 1 + 1) = x2 + 1 + 1 + cntL cnt_Item e.2.2.1 from heldItemS_pos c2, if_neg (by rw [decide_eq_true_eq]; omega)]
   exact good _ (by simp only [cnt_Row]; omega) (Prod.ext c0 (Prod.ext c1 (Prod.ext c2 rfl)))
 · rw [if_neg (by simp [hlt])]; exact he_end hp hlt
theorem eq (x0 : List Row) (x1 : Int) (_ : wf x0 x1) (hp : pre x0 x1 = true) : raw x0 x1 = some ((), (laws_heldRowS x0 x1, ())) := by
 unfold raw
 rw [if_pos (show pre2 _ = true from he_start mk_Row_ok hp)]
 exact heFn_start x0 x1
end laws_heldRowS
theorem heldRowS_pos {xs : List Row} {k : Int} (h : xs = mkL mk_Row cnt_Row xs k) : laws_heldRowS xs k = k + cntL cnt_Row xs := heldN_pos h
theorem heldRowS_neg {xs : List Row} {k : Int} (h : ¬ xs = mkL mk_Row cnt_Row xs k) : laws_heldRowS xs k = -1 := heldN_neg h
theorem heldRowS_pre {xs : List Row} {k : Int} (h0 : 0 ≤ k) (h1 : k + cntL cnt_Row xs ≤ 134217728) : laws_heldRowS.pre xs k = true := mPre_iff.2 ⟨h0, h1⟩
def mk_Maker (x : Maker) (k : Int) : Maker := (k, (k + 1, (k + 1 + 1, (k + 1 + 1 + 1, (mkL mk_Mark cnt_Mark x.2.2.2.2.1 (k + 1 + 1 + 1 + 1), ())))))
def cnt_Maker (x : Maker) : Int := 4 + cntL cnt_Mark x.2.2.2.2.1
theorem mk_Maker_ok : MkOk mk_Maker cnt_Maker := by
 refine ⟨fun x => ?_, fun x k => ?_, fun x k => ?_⟩
 · have n4 := cntL_nn mk_Mark_ok x.2.2.2.2.1
   simp only [cnt_Maker]; omega
 · simp only [cnt_Maker, mk_Maker, cntL_mkL mk_Mark_ok]
 · simp only [mk_Maker, cntL_mkL mk_Mark_ok, mkL_mkL mk_Mark_ok]
noncomputable def laws_eqMaker (a b : Maker) : Bool := same a b
namespace laws_eqMaker
abbrev wf (x0 : Maker) (x1 : Maker) : Prop := wfA [(.val zk23 .f), (.val zk23 .f)] (x0, (x1, ()))
noncomputable def raw (x0 : Maker) (x1 : Maker) : Option zt17 :=
 if (!(decide (x0.1 = x1.1))) = true then
 some ((), (false, ()))
 else
 if (!(decide (x0.2.1 = x1.2.1))) = true then
 some ((), (false, ()))
 else
 if (!(decide (x0.2.2.1 = x1.2.2.1))) = true then
 some ((), (false, ()))
 else
 if (!(decide (x0.2.2.2.1 = x1.2.2.2.1))) = true then
 some ((), (false, ()))
 else
 letB (laws_eqMarkS x0.2.2.2.2.1 x1.2.2.2.2.1) fun v1 =>
 if (!v1) = true then
 some ((), (false, ()))
 else
 some ((), (true, ()))
theorem eq (x0 x1 : Maker) (_ : wf x0 x1) : raw x0 x1 = some ((), (laws_eqMaker x0 x1, ())) := by
 unfold raw laws_eqMaker
 try simp only [letB]
 by_cases c0 : x0.1 = x1.1
 case neg => rw [if_pos (by simp [c0]), same_false.2 (fun h => c0 (congrArg (fun z : Maker => z.1) h))]
 rw [if_neg (by simp [c0])]
 by_cases c1 : x0.2.1 = x1.2.1
 case neg => rw [if_pos (by simp [c1]), same_false.2 (fun h => c1 (congrArg (fun z : Maker => z.2.1) h))]
 rw [if_neg (by simp [c1])]
 by_cases c2 : x0.2.2.1 = x1.2.2.1
 case neg => rw [if_pos (by simp [c2]), same_false.2 (fun h => c2 (congrArg (fun z : Maker => z.2.2.1) h))]
 rw [if_neg (by simp [c2])]
 by_cases c3 : x0.2.2.2.1 = x1.2.2.2.1
 case neg => rw [if_pos (by simp [c3]), same_false.2 (fun h => c3 (congrArg (fun z : Maker => z.2.2.2.1) h))]
 rw [if_neg (by simp [c3])]
 by_cases c4 : x0.2.2.2.2.1 = x1.2.2.2.2.1
 case neg => rw [if_pos (by rw [laws_eqMarkS, same_false.2 c4]; rfl), same_false.2 (fun h => c4 (congrArg (fun z : Maker => z.2.2.2.2.1) h))]
 rw [if_neg (by rw [laws_eqMarkS, same_true.2 c4]; simp)]
 rw [same_true.2 (Prod.ext c0 (Prod.ext c1 (Prod.ext c2 (Prod.ext c3 (Prod.ext c4 rfl)))))]
end laws_eqMaker
noncomputable def laws_eqMakerS (a b : List Maker) : Bool := same a b
namespace laws_eqMakerS
def pre4 := eqPre (α := Maker)
noncomputable def fn4 := eqFn (α := Maker)
def mu4 := eqMu (α := Maker)
noncomputable def raw4 (x1 : (List Maker)) (x2 : (List Maker)) (x3 : Int) : Option (((List Maker) × ((List Maker) × (Int × Unit))) ⊕ ((Bool × Unit) ⊕ Unit)) :=
 if (decide (x3 < ((List.length x1 : Nat) : Int))) = true then
 if (decide ((0 : Int) ≤ x3)) = true then
 if (decide (x3 < ((List.length x1 : Nat) : Int))) = true then
 if (decide ((0 : Int) ≤ x3)) = true then
 if (decide (x3 < ((List.length x2 : Nat) : Int))) = true then
 letB (laws_eqMaker (List.getD x1 (Int.toNat x3) zd7) (List.getD x2 (Int.toNat x3) zd7)) fun v1 =>
 if (!v1) = true then
 some (.inr (.inl (false, ())))
 else
 some (.inl (x1, (x2, ((IntKind.wrap .i64 (x3 + (1 : Int))), ()))))
 else
 none
 else
 none
 else
 none
 else
 none
 else
 some (.inr (.inr ()))
abbrev wf (x0 : (List Maker)) (x1 : (List Maker)) : Prop := wfA [(.val (.sl 0 zk23) .f), (.val (.sl 0 zk23) .f)] (x0, (x1, ()))
noncomputable def raw (x0 : (List Maker)) (x1 : (List Maker)) : Option zt17 :=
 if (!(decide (((List.length x0 : Nat) : Int) = ((List.length x1 : Nat) : Int)))) = true then
  some ((), (false, ()))
 else
  if (laws_eqMakerS.pre4 (x0, (x1, ((0 : Int), ())))) = true then
   letB (laws_eqMakerS.fn4 (x0, (x1, ((0 : Int), ())))) fun v1 =>
   match v1 with
   | .inl y =>
    some ((), y)
   | .inr y =>
    some ((), (true, ()))
  else
   none
theorem ok4 (x1 x2 : List Maker) (x3 : Int) (hp : pre4 (x1, (x2, (x3, ()))) = true) : Rounds pre4 mu4 fn4 (x1, (x2, (x3, ()))) (raw4 x1 x2 x3) := by
 unfold raw4
 by_cases hlt : x3 < (x1.length : Int)
 · obtain ⟨h1, h2, h3, h4⟩ := eq_next hp hlt zd7
   simp only [letB, hlt, h1, h2, decide_true, if_true]
   by_cases h : x1.getD x3.toNat zd7 = x2.getD x3.toNat zd7
   · rw [if_neg (by rw [laws_eqMaker, same_true.2 h]; simp)]; exact h3 h
   · rw [if_pos (by rw [laws_eqMaker, same_false.2 h]; rfl)]; exact h4 h
 · simp only [hlt, decide_false, Bool.false_eq_true, if_false]
   exact eq_end hp hlt
theorem eq (x0 x1 : List Maker) (hw : wf x0 x1) : raw x0 x1 = some ((), (laws_eqMakerS x0 x1, ())) := by
 have h1 : x0.length ≤ maxLen := hw.1.1
 unfold raw laws_eqMakerS
 by_cases hl : (x0.length : Int) = (x1.length : Int)
 · rw [if_neg (by simp [hl]), if_pos (show pre4 _ = true from eq_start h1 hl)]
   unfold fn4
   by_cases he : x0 = x1
   · rw [eqFn_eq he, same_true.2 he]; rfl
   · rw [eqFn_ne he, same_false.2 he]; rfl
 · have : ¬ x0 = x1 := fun h => hl (by rw [h])
   rw [if_pos (by simp [hl]), same_false.2 this]
end laws_eqMakerS
def laws_markMakerS (xs : List Maker) (k : Int) : List Maker × Int := (mkL mk_Maker cnt_Maker xs k, k + cntL cnt_Maker xs)
namespace laws_markMakerS
def pre (xs : List Maker) (k : Int) : Bool := mPre cnt_Maker xs k
def pre2 := mkPre cnt_Maker
def fn2 := mkFn mk_Maker cnt_Maker
def mu2 := mkMu (α := Maker)
noncomputable def raw2 (x1 : Int) (x2 : Int) (x3 : (List Maker)) : Option ((Int × (Int × ((List Maker) × Unit))) ⊕ (Int × ((List Maker) × Unit))) :=
 if (decide (x2 < ((List.length x3 : Nat) : Int))) = true then
 if (decide ((0 : Int) ≤ x2)) = true then
 if (decide (x2 < ((List.length x3 : Nat) : Int))) = true then
 if (decide ((0 : Int) ≤ x2)) = true then
 if (decide (x2 < ((List.length (List.modify x3 (Int.toNat x2) (fun z => (x1, z.2))) : Nat) : Int))) = true then
 if (decide ((0 : Int) ≤ x2)) = true then
 if (decide (x2 < ((List.length (List.modify (List.modify x3 (Int.toNat x2) (fun z => (x1, z.2))) (Int.toNat x2) (fun z => (z.1, ((IntKind.wrap .i64 (x1 + (1 : Int))), z.2.2)))) : Nat) : Int))) = true then
 if (decide ((0 : Int) ≤ x2)) = true then
 if (decide (x2 < ((List.length (List.modify (List.modify (List.modify x3 (Int.toNat x2) (fun z => (x1, z.2))) (Int.toNat x2) (fun z => (z.1, ((IntKind.wrap .i64 (x1 + (1 : Int))), z.2.2)))) (Int.toNat x2) (fun z => (z.1, (z.2.1, ((IntKind.wrap .i64 ((IntKind.wrap .i64 (x1 + (1 : Int))) + (1 : Int))), z.2.2.2))))) : Nat) : Int))) = true then
 if (decide ((0 : Int) ≤ x2)) = true then
 if (decide (x2 < ((List.length (List.modify (List.modify (List.modify (List.modify x3 (Int.toNat x2) (fun z => (x1, z.2))) (Int.toNat x2) (fun z => (z.1, ((IntKind.wrap .i64 (x1 + (1 : Int))), z.2.2)))) (Int.toNat x2) (fun z => (z.1, (z.2.1, ((IntKind.wrap .i64 ((IntKind.wrap .i64 (x1 + (1 : Int))) + (1 : Int))), z.2.2.2))))) (Int.toNat x2) (fun z => (z.1, (z.2.1, (z.2.2.1, ((IntKind.wrap .i64 ((IntKind.wrap .i64 ((IntKind.wrap .i64 (x1 + (1 : Int))) + (1 : Int))) + (1 : Int))), z.2.2.2.2)))))) : Nat) : Int))) = true then
 if (laws_markMarkS.pre (List.getD (List.modify (List.modify (List.modify (List.modify x3 (Int.toNat x2) (fun z => (x1, z.2))) (Int.toNat x2) (fun z => (z.1, ((IntKind.wrap .i64 (x1 + (1 : Int))), z.2.2)))) (Int.toNat x2) (fun z => (z.1, (z.2.1, ((IntKind.wrap .i64 ((IntKind.wrap .i64 (x1 + (1 : Int))) + (1 : Int))), z.2.2.2))))) (Int.toNat x2) (fun z => (z.1, (z.2.1, (z.2.2.1, ((IntKind.wrap .i64 ((IntKind.wrap .i64 ((IntKind.wrap .i64 (x1 + (1 : Int))) + (1 : Int))) + (1 : Int))), z.2.2.2.2)))))) (Int.toNat x2) zd7).2.2.2.2.1 (IntKind.wrap .i64 ((IntKind.wrap .i64 ((IntKind.wrap .i64 ((IntKind.wrap .i64 (x1 + (1 : Int))) + (1 : Int))) + (1 : Int))) + (1 : Int)))) = true then
 letB (laws_markMarkS (List.getD (List.modify (List.modify (List.modify (List.modify x3 (Int.toNat x2) (fun z => (x1, z.2))) (Int.toNat x2) (fun z => (z.1, ((IntKind.wrap .i64 (x1 + (1 : Int))), z.2.2)))) (Int.toNat x2) (fun z => (z.1, (z.2.1, ((IntKind.wrap .i64 ((IntKind.wrap .i64 (x1 + (1 : Int))) + (1 : Int))), z.2.2.2))))) (Int.toNat x2) (fun z => (z.1, (z.2.1, (z.2.2.1, ((IntKind.wrap .i64 ((IntKind.wrap .i64 ((IntKind.wrap .i64 (x1 + (1 : Int))) + (1 : Int))) + (1 : Int))), z.2.2.2.2)))))) (Int.toNat x2) zd7).2.2.2.2.1 (IntKind.wrap .i64 ((IntKind.wrap .i64 ((IntKind.wrap .i64 ((IntKind.wrap .i64 (x1 + (1 : Int))) + (1 : Int))) + (1 : Int))) + (1 : Int)))) fun v1 =>
 some (.inl (v1.2, ((IntKind.wrap .i64 (x2 + (1 : Int))), ((List.modify (List.modify (List.modify (List.modify (List.modify x3 (Int.toNat x2) (fun z => (x1, z.2))) (Int.toNat x2) (fun z => (z.1, ((IntKind.wrap .i64 (x1 + (1 : Int))), z.2.2)))) (Int.toNat x2) (fun z => (z.1, (z.2.1, ((IntKind.wrap .i64 ((IntKind.wrap .i64 (x1 + (1 : Int))) + (1 : Int))), z.2.2.2))))) (Int.toNat x2) (fun z => (z.1, (z.2.1, (z.2.2.1, ((IntKind.wrap .i64 ((IntKind.wrap .i64 ((IntKind.wrap .i64 (x1 + (1 : Int))) + (1 : Int))) + (1 : Int))), z.2.2.2.2)))))) (Int.toNat x2) (fun z => (z.1, (z.2.1, (z.2.2.1, (z.2.2.2.1, (v1.1, z.2.2.2.2.2))))))), ()))))
 else
 none
 else
 none
 else
 none
 else
 none
 else
 none
 else
 none
 else
 none
 else
 none
 else
 none
 else
 none
 else
 none
 else
 some (.inr (x1, (x3, ())))
abbrev wf (x0 : (List Maker)) (x1 : Int) : Prop := wfA [(.mut (.sl 0 zk23)), (.val (.int .i64) .f)] (x0, (x1, ()))
noncomputable def raw (x0 : (List Maker)) (x1 : Int) : Option (((List Maker) × Unit) × (Int × Unit)) :=
 if (laws_markMakerS.pre2 (x1, ((0 : Int), (x0, ())))) = true then
 letB (laws_markMakerS.fn2 (x1, ((0 : Int), (x0, ())))) fun v1 =>
 some (v1.2, (v1.1, ()))
 else
 none
theorem ok2 (x1 x2 : Int) (x3 : List Maker) (hp : pre2 (x1, (x2, (x3, ()))) = true) : Rounds pre2 mu2 fn2 (x1, (x2, (x3, ()))) (raw2 x1 x2 x3) := by
 unfold raw2
 by_cases hlt : x2 < (x3.length : Int)
 · obtain ⟨h0, hk, hc, hn⟩ := mk_facts mk_Maker_ok hp hlt zd7
   generalize he : x3.getD x2.toNat zd7 = e at hc
   simp only [cnt_Maker] at hc
   have n4 := cntL_nn mk_Mark_ok e.2.2.2.2.1
   have w0 : IntKind.wrap .i64 (x1 + 1) = x1 + 1 := w64 (by omega) (by omega)
   have w1 : IntKind.wrap .i64 (x1 + 1 + 1) = x1 + 1 + 1 := w64 (by omega) (by omega)
   have w2 : IntKind.wrap .i64 (x1 + 1 + 1 + 1) = x1 + 1 + 1 + 1 := w64 (by omega) (by omega)
   have w3 : IntKind.wrap .i64 (x1 + 1 + 1 + 1 + 1) = x1 + 1 + 1 + 1 + 1 := w64 (by omega) (by omega)
   have q4 : laws_markMarkS.pre e.2.2.2.2.1 (x1 + 1 + 1 + 1 + 1) = true := markMarkS_pre (by omega) (by omega)
   simp only [letB, List.length_modify, List.modify_modify_eq, getD_modify hn, Function.comp, hlt, h0, he, decide_true, if_true, w0, w1, w2, w3, q4, markMarkS_eq]
   exact mk_step mk_Maker_ok hp hlt zd7 (by rw [he]; simp only [cnt_Maker]; omega) (by rw [he]; rfl)
 · rw [if_neg (by simp [hlt])]; exact mk_end hp hlt
theorem eq (x0 : List Maker) (x1 : Int) (_ : wf x0 x1) (hp : pre x0 x1 = true) : raw x0 x1 = some (((laws_markMakerS x0 x1).1, ()), ((laws_markMakerS x0 x1).2, ())) := by
 unfold raw
 rw [if_pos (show pre2 _ = true from mk_start mk_Maker_ok hp)]
 rfl
end laws_markMakerS
theorem markMakerS_eq (xs : List Maker) (k : Int) : laws_markMakerS xs k = (mkL mk_Maker cnt_Maker xs k, k + cntL cnt_Maker xs) := rfl
theorem markMakerS_pre {xs : List Maker} {k : Int} (h0 : 0 ≤ k) (h1 : k + cntL cnt_Maker xs ≤ 134217728) : laws_markMakerS.pre xs k = true := mPre_iff.2 ⟨h0, h1⟩
noncomputable def laws_heldMakerS (xs : List Maker) (k : Int) : Int := heldN (mkL mk_Maker cnt_Maker) (cntL cnt_Maker) xs k
namespace laws_heldMakerS
def pre (xs : List Maker) (k : Int) : Bool := mPre cnt_Maker xs k
def pre2 := hePre cnt_Maker
noncomputable def fn2 := heFn mk_Maker cnt_Maker
def mu2 := heMu (α := Maker)
noncomputable def raw2 (x1 : (List Maker)) (x2 : Int) (x3 : Int) : Option (((List Maker) × Mark) ⊕ ((Int × Unit) ⊕ (Int × Unit))) :=
 if (decide (x3 < ((List.length x1 : Nat) : Int))) = true then
 if (decide ((0 : Int) ≤ x3)) = true then
 if (decide (x3 < ((List.length x1 : Nat) : Int))) = true then
 if (!(decide ((List.getD x1 (Int.toNat x3) zd7).1 = x2))) = true then
 some (.inr (.inl ((-1 : Int), ())))
 else
 if (decide ((0 : Int) ≤ x3)) = true then
 if (decide (x3 < ((List.length x1 : Nat) : Int))) = true then
 if (!(decide ((List.getD x1 (Int.toNat x3) zd7).2.1 = (IntKind.wrap .i64 (x2 + (1 : Int)))))) = true then
 some (.inr (.inl ((-1 : Int), ())))
 else
 if (decide ((0 : Int) ≤ x3)) = true then
 if (decide (x3 < ((List.length x1 : Nat) : Int))) = true then
 if (!(decide ((List.getD x1 (Int.toNat x3) zd7).2.2.1 = (IntKind.wrap .i64 ((IntKind.wrap .i64 (x2 + (1 : Int))) + (1 : Int)))))) = true then
 some (.inr (.inl ((-1 : Int), ())))
 else
 if (decide ((0 : Int) ≤ x3)) = true then
 if (decide (x3 < ((List.length x1 : Nat) : Int))) = true then
 if (!(decide ((List.getD x1 (Int.toNat x3) zd7).2.2.2.1 = (IntKind.wrap .i64 ((IntKind.wrap .i64 ((IntKind.wrap .i64 (x2 + (1 : Int))) + (1 : Int))) + (1 : Int)))))) = true then
 some (.inr (.inl ((-1 : Int), ())))
 else
 if (decide ((0 : Int) ≤ x3)) = true then
 if (decide (x3 < ((List.length x1 : Nat) : Int))) = true then
 if (laws_heldMarkS.pre (List.getD x1 (Int.toNat x3) zd7).2.2.2.2.1 (IntKind.wrap .i64 ((IntKind.wrap .i64 ((IntKind.wrap .i64 ((IntKind.wrap .i64 (x2 + (1 : Int))) + (1 : Int))) + (1 : Int))) + (1 : Int)))) = true then
 letB (laws_heldMarkS (List.getD x1 (Int.toNat x3) zd7).2.2.2.2.1 (IntKind.wrap .i64 ((IntKind.wrap .i64 ((IntKind.wrap .i64 ((IntKind.wrap .i64 (x2 + (1 : Int))) + (1 : Int))) + (1 : Int))) + (1 : Int)))) fun v1 =>
 if (decide (v1 < (0 : Int))) = true then
 some (.inr (.inl ((-1 : Int), ())))
 else
 some (.inl (x1, (v1, ((IntKind.wrap .i64 (x3 + (1 : Int))), ()))))
 else
 none
 else
 none
 else
 none
 else
 none
 else
 none
 else
 none
 else
 none
 else
 none
 else
 none
 else
 none
 else
 none
 else
 some (.inr (.inr (x2, ())))
abbrev wf (x0 : (List Maker)) (x1 : Int) : Prop := wfA [(.val (.sl 0 zk23) .f), (.val (.int .i64) .f)] (x0, (x1, ()))
noncomputable def raw (x0 : (List Maker)) (x1 : Int) : Option zt28 :=
 if (laws_heldMakerS.pre2 (x0, (x1, ((0 : Int), ())))) = true then
  letB (laws_heldMakerS.fn2 (x0, (x1, ((0 : Int), ())))) fun v1 =>
  match v1 with
  | .inl y =>
   some ((), y)
  | .inr y =>
   some ((), y)
 else
  none
theorem ok2 (x1 : List Maker) (x2 x3 : Int) (hp : pre2 (x1, (x2, (x3, ()))) = true) : Rounds pre2 mu2 fn2 (x1, (x2, (x3, ()))) (raw2 x1 x2 x3) := by
 unfold raw2
 by_cases hlt : x3 < (x1.length : Int)
 · obtain ⟨h0, hk, hc⟩ := he_facts mk_Maker_ok hp hlt zd7
   have bad := he_bad (m := mk_Maker) (g := cnt_Maker) hp hlt zd7
   have good := fun K hK => he_good mk_Maker_ok (K := K) hp hlt zd7 hK
   generalize x1.getD x3.toNat zd7 = e at *
   simp only [cnt_Maker] at hc
   have n4 := cntL_nn mk_Mark_ok e.2.2.2.2.1
   have w0 : IntKind.wrap .i64 (x2 + 1) = x2 + 1 := w64 (by omega) (by omega)
   have w1 : IntKind.wrap .i64 (x2 + 1 + 1) = x2 + 1 + 1 := w64 (by omega) (by omega)
   have w2 : IntKind.wrap .i64 (x2 + 1 + 1 + 1) = x2 + 1 + 1 + 1 := w64 (by omega) (by omega)
   have w3 : IntKind.wrap .i64 (x2 + 1 + 1 + 1 + 1) = x2 + 1 + 1 + 1 + 1 := w64 (by omega) (by omega)
   have q4 : laws_heldMarkS.pre e.2.2.2.2.1 (x2 + 1 + 1 + 1 + 1) = true := heldMarkS_pre (by omega) (by omega)
   simp only [letB, hlt, h0, decide_true, if_true, w0, w1, w2, w3, q4]
   by_cases c0 : e.1 = x2
   case neg => rw [if_pos (by simp [c0])]; exact bad fun h => c0 (congrArg (fun z : Maker => z.1) h)
   rw [if_neg (by simp [c0])]
   by_cases c1 : e.2.1 = x2 + 1
   case neg => rw [if_pos (by simp [c1])]; exact bad fun h => c1 (congrArg (fun z : Maker => z.2.1) h)
   rw [if_neg (by simp [c1])]
   by_cases c2 : e.2.2.1 = x2 + 1 + 1
   case neg => rw [if_pos (by simp [c2])]; exact bad fun h => c2 (congrArg (fun z : Maker => z.2.2.1) h)
   rw [if_neg (by simp [c2])]
   by_cases c3 : e.2.2.2.1 = x2 + 1 + 1 + 1
   case neg => rw [if_pos (by simp [c3])]; exact bad fun h => c3 (congrArg (fun z : Maker => z.2.2.2.1) h)
   rw [if_neg (by simp [c3])]
   by_cases c4 : e.2.2.2.2.1 = mkL mk_Mark cnt_Mark e.2.2.2.2.1 (x2 + 1 + 1 + 1 + 1)
   case neg => rw [show laws_heldMarkS e.2.2.2.2.1 (x2 + 1 + 1 + 1 + 1) = -1 from heldMarkS_neg c4, if_pos (by decide)]; exact bad fun h => c4 ((congrArg (fun z : Maker => z.2.2.2.2.1) h).trans (by simp only [mk_Maker]))
   rw [show laws_heldMarkS e.2.2.2.2.1 (x2 + 1 + 1 + 1 + 1) = x2 + 1 + 1 + 1 + 1 + cntL cnt_Mark e.2.2.2.2.1 from heldMarkS_pos c4, if_neg (by rw [decide_eq_true_eq]; omega)]
   exact good _ (by simp only [cnt_Maker]; omega) (Prod.ext c0 (Prod.ext c1 (Prod.ext c2 (Prod.ext c3 (Prod.ext c4 rfl)))))
 · rw [if_neg (by simp [hlt])]; exact he_end hp hlt
theorem eq (x0 : List Maker) (x1 : Int) (_ : wf x0 x1) (hp : pre x0 x1 = true) : raw x0 x1 = some ((), (laws_heldMakerS x0 x1, ())) := by
 unfold raw
 rw [if_pos (show pre2 _ = true from he_start mk_Maker_ok hp)]
 exact heFn_start x0 x1
end laws_heldMakerS
theorem heldMakerS_pos {xs : List Maker} {k : Int} (h : xs = mkL mk_Maker cnt_Maker xs k) : laws_heldMakerS xs k = k + cntL cnt_Maker xs := heldN_pos h
theorem heldMakerS_neg {xs : List Maker} {k : Int} (h : ¬ xs = mkL mk_Maker cnt_Maker xs k) : laws_heldMakerS xs k = -1 := heldN_neg h
theorem heldMakerS_pre {xs : List Maker} {k : Int} (h0 : 0 ≤ k) (h1 : k + cntL cnt_Maker xs ≤ 134217728) : laws_heldMakerS.pre xs k = true := mPre_iff.2 ⟨h0, h1⟩
def mk_Answer (_ : Answer) (k : Int) : Answer := (k, (k + 1, (laws_markText (k + 1 + 1), (laws_markText (k + 1 + 1 + 1), ()))))
def cnt_Answer (_ : Answer) : Int := 4
theorem mk_Answer_ok : MkOk mk_Answer cnt_Answer := ⟨fun _ => by simp only [cnt_Answer]; decide, fun _ _ => rfl, fun _ _ => rfl⟩
noncomputable def laws_eqAnswer (a b : Answer) : Bool := same a b
namespace laws_eqAnswer
abbrev wf (x0 : Answer) (x1 : Answer) : Prop := wfA [(.val zk20 .f), (.val zk20 .f)] (x0, (x1, ()))
noncomputable def raw (x0 : Answer) (x1 : Answer) : Option zt17 :=
 if (!(decide (x0.1 = x1.1))) = true then
 some ((), (false, ()))
 else
 if (!(decide (x0.2.1 = x1.2.1))) = true then
 some ((), (false, ()))
 else
 if (!(x0.2.2.1 == x1.2.2.1)) = true then
 some ((), (false, ()))
 else
 if (!(x0.2.2.2.1 == x1.2.2.2.1)) = true then
 some ((), (false, ()))
 else
 some ((), (true, ()))
theorem eq (x0 x1 : Answer) (_ : wf x0 x1) : raw x0 x1 = some ((), (laws_eqAnswer x0 x1, ())) := by
 unfold raw laws_eqAnswer
 try simp only [letB]
 by_cases c0 : x0.1 = x1.1
 case neg => rw [if_pos (by simp [c0]), same_false.2 (fun h => c0 (congrArg (fun z : Answer => z.1) h))]
 rw [if_neg (by simp [c0])]
 by_cases c1 : x0.2.1 = x1.2.1
 case neg => rw [if_pos (by simp [c1]), same_false.2 (fun h => c1 (congrArg (fun z : Answer => z.2.1) h))]
 rw [if_neg (by simp [c1])]
 by_cases c2 : x0.2.2.1 = x1.2.2.1
 case neg => rw [if_pos (by simp [c2]), same_false.2 (fun h => c2 (congrArg (fun z : Answer => z.2.2.1) h))]
 rw [if_neg (by simp [c2])]
 by_cases c3 : x0.2.2.2.1 = x1.2.2.2.1
 case neg => rw [if_pos (by simp [c3]), same_false.2 (fun h => c3 (congrArg (fun z : Answer => z.2.2.2.1) h))]
 rw [if_neg (by simp [c3])]
 rw [same_true.2 (Prod.ext c0 (Prod.ext c1 (Prod.ext c2 (Prod.ext c3 rfl))))]
end laws_eqAnswer
noncomputable def laws_eqAnswerS (a b : List Answer) : Bool := same a b
namespace laws_eqAnswerS
def pre4 := eqPre (α := Answer)
noncomputable def fn4 := eqFn (α := Answer)
def mu4 := eqMu (α := Answer)
noncomputable def raw4 (x1 : (List Answer)) (x2 : (List Answer)) (x3 : Int) : Option (((List Answer) × ((List Answer) × (Int × Unit))) ⊕ ((Bool × Unit) ⊕ Unit)) :=
 if (decide (x3 < ((List.length x1 : Nat) : Int))) = true then
 if (decide ((0 : Int) ≤ x3)) = true then
 if (decide (x3 < ((List.length x1 : Nat) : Int))) = true then
 if (decide ((0 : Int) ≤ x3)) = true then
 if (decide (x3 < ((List.length x2 : Nat) : Int))) = true then
 letB (laws_eqAnswer (List.getD x1 (Int.toNat x3) zd9) (List.getD x2 (Int.toNat x3) zd9)) fun v1 =>
 if (!v1) = true then
 some (.inr (.inl (false, ())))
 else
 some (.inl (x1, (x2, ((IntKind.wrap .i64 (x3 + (1 : Int))), ()))))
 else
 none
 else
 none
 else
 none
 else
 none
 else
 some (.inr (.inr ()))
abbrev wf (x0 : (List Answer)) (x1 : (List Answer)) : Prop := wfA [(.val (.sl 0 zk20) .f), (.val (.sl 0 zk20) .f)] (x0, (x1, ()))
noncomputable def raw (x0 : (List Answer)) (x1 : (List Answer)) : Option zt17 :=
 if (!(decide (((List.length x0 : Nat) : Int) = ((List.length x1 : Nat) : Int)))) = true then
  some ((), (false, ()))
 else
  if (laws_eqAnswerS.pre4 (x0, (x1, ((0 : Int), ())))) = true then
   letB (laws_eqAnswerS.fn4 (x0, (x1, ((0 : Int), ())))) fun v1 =>
   match v1 with
   | .inl y =>
    some ((), y)
   | .inr y =>
    some ((), (true, ()))
  else
   none
theorem ok4 (x1 x2 : List Answer) (x3 : Int) (hp : pre4 (x1, (x2, (x3, ()))) = true) : Rounds pre4 mu4 fn4 (x1, (x2, (x3, ()))) (raw4 x1 x2 x3) := by
 unfold raw4
 by_cases hlt : x3 < (x1.length : Int)
 · obtain ⟨h1, h2, h3, h4⟩ := eq_next hp hlt zd9
   simp only [letB, hlt, h1, h2, decide_true, if_true]
   by_cases h : x1.getD x3.toNat zd9 = x2.getD x3.toNat zd9
   · rw [if_neg (by rw [laws_eqAnswer, same_true.2 h]; simp)]; exact h3 h
   · rw [if_pos (by rw [laws_eqAnswer, same_false.2 h]; rfl)]; exact h4 h
 · simp only [hlt, decide_false, Bool.false_eq_true, if_false]
   exact eq_end hp hlt
theorem eq (x0 x1 : List Answer) (hw : wf x0 x1) : raw x0 x1 = some ((), (laws_eqAnswerS x0 x1, ())) := by
 have h1 : x0.length ≤ maxLen := hw.1.1
 unfold raw laws_eqAnswerS
 by_cases hl : (x0.length : Int) = (x1.length : Int)
 · rw [if_neg (by simp [hl]), if_pos (show pre4 _ = true from eq_start h1 hl)]
   unfold fn4
   by_cases he : x0 = x1
   · rw [eqFn_eq he, same_true.2 he]; rfl
   · rw [eqFn_ne he, same_false.2 he]; rfl
 · have : ¬ x0 = x1 := fun h => hl (by rw [h])
   rw [if_pos (by simp [hl]), same_false.2 this]
end laws_eqAnswerS
def laws_markAnswerS (xs : List Answer) (k : Int) : List Answer × Int := (mkL mk_Answer cnt_Answer xs k, k + cntL cnt_Answer xs)
namespace laws_markAnswerS
def pre (xs : List Answer) (k : Int) : Bool := mPre cnt_Answer xs k
def pre2 := mkPre cnt_Answer
def fn2 := mkFn mk_Answer cnt_Answer
def mu2 := mkMu (α := Answer)
noncomputable def raw2 (x1 : Int) (x2 : Int) (x3 : (List Answer)) : Option ((Int × (Int × ((List Answer) × Unit))) ⊕ (Int × ((List Answer) × Unit))) :=
 if (decide (x2 < ((List.length x3 : Nat) : Int))) = true then
 if (decide ((0 : Int) ≤ x2)) = true then
 if (decide (x2 < ((List.length x3 : Nat) : Int))) = true then
 if (decide ((0 : Int) ≤ x2)) = true then
 if (decide (x2 < ((List.length (List.modify x3 (Int.toNat x2) (fun z => (x1, z.2))) : Nat) : Int))) = true then
 if (laws_markText.pre (IntKind.wrap .i64 ((IntKind.wrap .i64 (x1 + (1 : Int))) + (1 : Int)))) = true then
 if (decide ((0 : Int) ≤ x2)) = true then
 if (decide (x2 < ((List.length (List.modify (List.modify x3 (Int.toNat x2) (fun z => (x1, z.2))) (Int.toNat x2) (fun z => (z.1, ((IntKind.wrap .i64 (x1 + (1 : Int))), z.2.2)))) : Nat) : Int))) = true then
 if (laws_markText.pre (IntKind.wrap .i64 ((IntKind.wrap .i64 ((IntKind.wrap .i64 (x1 + (1 : Int))) + (1 : Int))) + (1 : Int)))) = true then
 if (decide ((0 : Int) ≤ x2)) = true then
 if (decide (x2 < ((List.length (List.modify (List.modify (List.modify x3 (Int.toNat x2) (fun z => (x1, z.2))) (Int.toNat x2) (fun z => (z.1, ((IntKind.wrap .i64 (x1 + (1 : Int))), z.2.2)))) (Int.toNat x2) (fun z => (z.1, (z.2.1, ((laws_markText (IntKind.wrap .i64 ((IntKind.wrap .i64 (x1 + (1 : Int))) + (1 : Int)))), z.2.2.2))))) : Nat) : Int))) = true then
 some (.inl ((IntKind.wrap .i64 ((IntKind.wrap .i64 ((IntKind.wrap .i64 ((IntKind.wrap .i64 (x1 + (1 : Int))) + (1 : Int))) + (1 : Int))) + (1 : Int))), ((IntKind.wrap .i64 (x2 + (1 : Int))), ((List.modify (List.modify (List.modify (List.modify x3 (Int.toNat x2) (fun z => (x1, z.2))) (Int.toNat x2) (fun z => (z.1, ((IntKind.wrap .i64 (x1 + (1 : Int))), z.2.2)))) (Int.toNat x2) (fun z => (z.1, (z.2.1, ((laws_markText (IntKind.wrap .i64 ((IntKind.wrap .i64 (x1 + (1 : Int))) + (1 : Int)))), z.2.2.2))))) (Int.toNat x2) (fun z => (z.1, (z.2.1, (z.2.2.1, ((laws_markText (IntKind.wrap .i64 ((IntKind.wrap .i64 ((IntKind.wrap .i64 (x1 + (1 : Int))) + (1 : Int))) + (1 : Int)))), z.2.2.2.2)))))), ()))))
 else
 none
 else
 none
 else
 none
 else
 none
 else
 none
 else
 none
 else
 none
 else
 none
 else
 none
 else
 none
 else
 some (.inr (x1, (x3, ())))
abbrev wf (x0 : (List Answer)) (x1 : Int) : Prop := wfA [(.mut (.sl 0 zk20)), (.val (.int .i64) .f)] (x0, (x1, ()))
noncomputable def raw (x0 : (List Answer)) (x1 : Int) : Option (((List Answer) × Unit) × (Int × Unit)) :=
 if (laws_markAnswerS.pre2 (x1, ((0 : Int), (x0, ())))) = true then
 letB (laws_markAnswerS.fn2 (x1, ((0 : Int), (x0, ())))) fun v1 =>
 some (v1.2, (v1.1, ()))
 else
 none
theorem ok2 (x1 x2 : Int) (x3 : List Answer) (hp : pre2 (x1, (x2, (x3, ()))) = true) : Rounds pre2 mu2 fn2 (x1, (x2, (x3, ()))) (raw2 x1 x2 x3) := by
 unfold raw2
 by_cases hlt : x2 < (x3.length : Int)
 · obtain ⟨h0, hk, hc, hn⟩ := mk_facts mk_Answer_ok hp hlt zd9
   generalize he : x3.getD x2.toNat zd9 = e at hc
   simp only [cnt_Answer] at hc
   have w0 : IntKind.wrap .i64 (x1 + 1) = x1 + 1 := w64 (by omega) (by omega)
   have w1 : IntKind.wrap .i64 (x1 + 1 + 1) = x1 + 1 + 1 := w64 (by omega) (by omega)
   have w2 : IntKind.wrap .i64 (x1 + 1 + 1 + 1) = x1 + 1 + 1 + 1 := w64 (by omega) (by omega)
   have p2 : laws_markText.pre (x1 + 1 + 1) = true := by simp only [laws_markText.pre, decide_eq_true_eq]; omega
   have w3 : IntKind.wrap .i64 (x1 + 1 + 1 + 1 + 1) = x1 + 1 + 1 + 1 + 1 := w64 (by omega) (by omega)
   have p3 : laws_markText.pre (x1 + 1 + 1 + 1) = true := by simp only [laws_markText.pre, decide_eq_true_eq]; omega
   simp only [letB, List.length_modify, List.modify_modify_eq, getD_modify hn, Function.comp, hlt, h0, he, decide_true, if_true, w0, w1, w2, p2, w3, p3]
   exact mk_step mk_Answer_ok hp hlt zd9 (by rw [he]; simp only [cnt_Answer]; omega) (by rw [he]; rfl)
 · rw [if_neg (by simp [hlt])]; exact mk_end hp hlt
theorem eq (x0 : List Answer) (x1 : Int) (_ : wf x0 x1) (hp : pre x0 x1 = true) : raw x0 x1 = some (((laws_markAnswerS x0 x1).1, ()), ((laws_markAnswerS x0 x1).2, ())) := by
 unfold raw
 rw [if_pos (show pre2 _ = true from mk_start mk_Answer_ok hp)]
 rfl
end laws_markAnswerS
theorem markAnswerS_eq (xs : List Answer) (k : Int) : laws_markAnswerS xs k = (mkL mk_Answer cnt_Answer xs k, k + cntL cnt_Answer xs) := rfl
theorem markAnswerS_pre {xs : List Answer} {k : Int} (h0 : 0 ≤ k) (h1 : k + cntL cnt_Answer xs ≤ 134217728) : laws_markAnswerS.pre xs k = true := mPre_iff.2 ⟨h0, h1⟩
noncomputable def laws_heldAnswerS (xs : List Answer) (k : Int) : Int := heldN (mkL mk_Answer cnt_Answer) (cntL cnt_Answer) xs k
namespace laws_heldAnswerS
def pre (xs : List Answer) (k : Int) : Bool := mPre cnt_Answer xs k
def pre2 := hePre cnt_Answer
noncomputable def fn2 := heFn mk_Answer cnt_Answer
def mu2 := heMu (α := Answer)
noncomputable def raw2 (x1 : (List Answer)) (x2 : Int) (x3 : Int) : Option (((List Answer) × Mark) ⊕ ((Int × Unit) ⊕ (Int × Unit))) :=
 if (decide (x3 < ((List.length x1 : Nat) : Int))) = true then
 if (decide ((0 : Int) ≤ x3)) = true then
 if (decide (x3 < ((List.length x1 : Nat) : Int))) = true then
 if (!(decide ((List.getD x1 (Int.toNat x3) zd9).1 = x2))) = true then
 some (.inr (.inl ((-1 : Int), ())))
 else
 if (decide ((0 : Int) ≤ x3)) = true then
 if (decide (x3 < ((List.length x1 : Nat) : Int))) = true then
 if (!(decide ((List.getD x1 (Int.toNat x3) zd9).2.1 = (IntKind.wrap .i64 (x2 + (1 : Int)))))) = true then
 some (.inr (.inl ((-1 : Int), ())))
 else
 if (decide ((0 : Int) ≤ x3)) = true then
 if (decide (x3 < ((List.length x1 : Nat) : Int))) = true then
 if (laws_markText.pre (IntKind.wrap .i64 ((IntKind.wrap .i64 (x2 + (1 : Int))) + (1 : Int)))) = true then
 letB (laws_markText (IntKind.wrap .i64 ((IntKind.wrap .i64 (x2 + (1 : Int))) + (1 : Int)))) fun v1 =>
 if (!((List.getD x1 (Int.toNat x3) zd9).2.2.1 == v1)) = true then
 some (.inr (.inl ((-1 : Int), ())))
 else
 if (decide ((0 : Int) ≤ x3)) = true then
 if (decide (x3 < ((List.length x1 : Nat) : Int))) = true then
 if (laws_markText.pre (IntKind.wrap .i64 ((IntKind.wrap .i64 ((IntKind.wrap .i64 (x2 + (1 : Int))) + (1 : Int))) + (1 : Int)))) = true then
 letB (laws_markText (IntKind.wrap .i64 ((IntKind.wrap .i64 ((IntKind.wrap .i64 (x2 + (1 : Int))) + (1 : Int))) + (1 : Int)))) fun v2 =>
 if (!((List.getD x1 (Int.toNat x3) zd9).2.2.2.1 == v2)) = true then
 some (.inr (.inl ((-1 : Int), ())))
 else
 some (.inl (x1, ((IntKind.wrap .i64 ((IntKind.wrap .i64 ((IntKind.wrap .i64 ((IntKind.wrap .i64 (x2 + (1 : Int))) + (1 : Int))) + (1 : Int))) + (1 : Int))), ((IntKind.wrap .i64 (x3 + (1 : Int))), ()))))
 else
 none
 else
 none
 else
 none
 else
 none
 else
 none
 else
 none
 else
 none
 else
 none
 else
 none
 else
 none
 else
 some (.inr (.inr (x2, ())))
abbrev wf (x0 : (List Answer)) (x1 : Int) : Prop := wfA [(.val (.sl 0 zk20) .f), (.val (.int .i64) .f)] (x0, (x1, ()))
noncomputable def raw (x0 : (List Answer)) (x1 : Int) : Option zt28 :=
 if (laws_heldAnswerS.pre2 (x0, (x1, ((0 : Int), ())))) = true then
  letB (laws_heldAnswerS.fn2 (x0, (x1, ((0 : Int), ())))) fun v1 =>
  match v1 with
  | .inl y =>
   some ((), y)
  | .inr y =>
   some ((), y)
 else
  none
theorem ok2 (x1 : List Answer) (x2 x3 : Int) (hp : pre2 (x1, (x2, (x3, ()))) = true) : Rounds pre2 mu2 fn2 (x1, (x2, (x3, ()))) (raw2 x1 x2 x3) := by
 unfold raw2
 by_cases hlt : x3 < (x1.length : Int)
 · obtain ⟨h0, hk, hc⟩ := he_facts mk_Answer_ok hp hlt zd9
   have bad := he_bad (m := mk_Answer) (g := cnt_Answer) hp hlt zd9
   have good := fun K hK => he_good mk_Answer_ok (K := K) hp hlt zd9 hK
   generalize x1.getD x3.toNat zd9 = e at *
   simp only [cnt_Answer] at hc
   have w0 : IntKind.wrap .i64 (x2 + 1) = x2 + 1 := w64 (by omega) (by omega)
   have w1 : IntKind.wrap .i64 (x2 + 1 + 1) = x2 + 1 + 1 := w64 (by omega) (by omega)
   have w2 : IntKind.wrap .i64 (x2 + 1 + 1 + 1) = x2 + 1 + 1 + 1 := w64 (by omega) (by omega)
   have p2 : laws_markText.pre (x2 + 1 + 1) = true := by simp only [laws_markText.pre, decide_eq_true_eq]; omega
   have w3 : IntKind.wrap .i64 (x2 + 1 + 1 + 1 + 1) = x2 + 1 + 1 + 1 + 1 := w64 (by omega) (by omega)
   have p3 : laws_markText.pre (x2 + 1 + 1 + 1) = true := by simp only [laws_markText.pre, decide_eq_true_eq]; omega
   simp only [letB, hlt, h0, decide_true, if_true, w0, w1, w2, p2, w3, p3]
   by_cases c0 : e.1 = x2
   case neg => rw [if_pos (by simp [c0])]; exact bad fun h => c0 (congrArg (fun z : Answer => z.1) h)
   rw [if_neg (by simp [c0])]
   by_cases c1 : e.2.1 = x2 + 1
   case neg => rw [if_pos (by simp [c1])]; exact bad fun h => c1 (congrArg (fun z : Answer => z.2.1) h)
   rw [if_neg (by simp [c1])]
   by_cases c2 : e.2.2.1 = laws_markText (x2 + 1 + 1)
   case neg => rw [if_pos (by simp [c2])]; exact bad fun h => c2 (congrArg (fun z : Answer => z.2.2.1) h)
   rw [if_neg (by simp [c2])]
   by_cases c3 : e.2.2.2.1 = laws_markText (x2 + 1 + 1 + 1)
   case neg => rw [if_pos (by simp [c3])]; exact bad fun h => c3 (congrArg (fun z : Answer => z.2.2.2.1) h)
   rw [if_neg (by simp [c3])]
   exact good _ (by simp only [cnt_Answer]; omega) (Prod.ext c0 (Prod.ext c1 (Prod.ext c2 (Prod.ext c3 rfl))))
 · rw [if_neg (by simp [hlt])]; exact he_end hp hlt
theorem eq (x0 : List Answer) (x1 : Int) (_ : wf x0 x1) (hp : pre x0 x1 = true) : raw x0 x1 = some ((), (laws_heldAnswerS x0 x1, ())) := by
 unfold raw
 rw [if_pos (show pre2 _ = true from he_start mk_Answer_ok hp)]
 exact heFn_start x0 x1
end laws_heldAnswerS
theorem heldAnswerS_pos {xs : List Answer} {k : Int} (h : xs = mkL mk_Answer cnt_Answer xs k) : laws_heldAnswerS xs k = k + cntL cnt_Answer xs := heldN_pos h
theorem heldAnswerS_neg {xs : List Answer} {k : Int} (h : ¬ xs = mkL mk_Answer cnt_Answer xs k) : laws_heldAnswerS xs k = -1 := heldN_neg h
theorem heldAnswerS_pre {xs : List Answer} {k : Int} (h0 : 0 ≤ k) (h1 : k + cntL cnt_Answer xs ≤ 134217728) : laws_heldAnswerS.pre xs k = true := mPre_iff.2 ⟨h0, h1⟩
def mk_Group (x : Group) (k : Int) : Group := (k, (mkL mk_Int cnt_Int x.2.1 (k + 1), (mkL mk_Int cnt_Int x.2.2.1 (k + 1 + cntL cnt_Int x.2.1), (mkL mk_Int cnt_Int x.2.2.2.1 (k + 1 + cntL cnt_Int x.2.1 + cntL cnt_Int x.2.2.1), ()))))
def cnt_Group (x : Group) : Int := 1 + cntL cnt_Int x.2.1 + cntL cnt_Int x.2.2.1 + cntL cnt_Int x.2.2.2.1
theorem mk_Group_ok : MkOk mk_Group cnt_Group := by
 refine ⟨fun x => ?_, fun x k => ?_, fun x k => ?_⟩
 · have n1 := cntL_nn mk_Int_ok x.2.1
   have n2 := cntL_nn mk_Int_ok x.2.2.1
   have n3 := cntL_nn mk_Int_ok x.2.2.2.1
   simp only [cnt_Group]; omega
 · simp only [cnt_Group, mk_Group, cntL_mkL mk_Int_ok]
 · simp only [mk_Group, cntL_mkL mk_Int_ok, mkL_mkL mk_Int_ok]
noncomputable def laws_eqGroup (a b : Group) : Bool := same a b
namespace laws_eqGroup
abbrev wf (x0 : Group) (x1 : Group) : Prop := wfA [(.val zk19 .f), (.val zk19 .f)] (x0, (x1, ()))
noncomputable def raw (x0 : Group) (x1 : Group) : Option zt17 :=
 if (!(decide (x0.1 = x1.1))) = true then
 some ((), (false, ()))
 else
 letB (laws_eqIntS x0.2.1 x1.2.1) fun v1 =>
 if (!v1) = true then
 some ((), (false, ()))
 else
 letB (laws_eqIntS x0.2.2.1 x1.2.2.1) fun v2 =>
 if (!v2) = true then
 some ((), (false, ()))
 else
 letB (laws_eqIntS x0.2.2.2.1 x1.2.2.2.1) fun v3 =>
 if (!v3) = true then
 some ((), (false, ()))
 else
 some ((), (true, ()))
theorem eq (x0 x1 : Group) (_ : wf x0 x1) : raw x0 x1 = some ((), (laws_eqGroup x0 x1, ())) := by
 unfold raw laws_eqGroup
 try simp only [letB]
 by_cases c0 : x0.1 = x1.1
 case neg => rw [if_pos (by simp [c0]), same_false.2 (fun h => c0 (congrArg (fun z : Group => z.1) h))]
 rw [if_neg (by simp [c0])]
 by_cases c1 : x0.2.1 = x1.2.1
 case neg => rw [if_pos (by rw [laws_eqIntS, same_false.2 c1]; rfl), same_false.2 (fun h => c1 (congrArg (fun z : Group => z.2.1) h))]
 rw [if_neg (by rw [laws_eqIntS, same_true.2 c1]; simp)]
 by_cases c2 : x0.2.2.1 = x1.2.2.1
 case neg => rw [if_pos (by rw [laws_eqIntS, same_false.2 c2]; rfl), same_false.2 (fun h => c2 (congrArg (fun z : Group => z.2.2.1) h))]
 rw [if_neg (by rw [laws_eqIntS, same_true.2 c2]; simp)]
 by_cases c3 : x0.2.2.2.1 = x1.2.2.2.1
 case neg => rw [if_pos (by rw [laws_eqIntS, same_false.2 c3]; rfl), same_false.2 (fun h => c3 (congrArg (fun z : Group => z.2.2.2.1) h))]
 rw [if_neg (by rw [laws_eqIntS, same_true.2 c3]; simp)]
 rw [same_true.2 (Prod.ext c0 (Prod.ext c1 (Prod.ext c2 (Prod.ext c3 rfl))))]
end laws_eqGroup
noncomputable def laws_eqGroupS (a b : List Group) : Bool := same a b
namespace laws_eqGroupS
def pre4 := eqPre (α := Group)
noncomputable def fn4 := eqFn (α := Group)
def mu4 := eqMu (α := Group)
noncomputable def raw4 (x1 : (List Group)) (x2 : (List Group)) (x3 : Int) : Option (((List Group) × ((List Group) × (Int × Unit))) ⊕ ((Bool × Unit) ⊕ Unit)) :=
 if (decide (x3 < ((List.length x1 : Nat) : Int))) = true then
 if (decide ((0 : Int) ≤ x3)) = true then
 if (decide (x3 < ((List.length x1 : Nat) : Int))) = true then
 if (decide ((0 : Int) ≤ x3)) = true then
 if (decide (x3 < ((List.length x2 : Nat) : Int))) = true then
 letB (laws_eqGroup (List.getD x1 (Int.toNat x3) zd11) (List.getD x2 (Int.toNat x3) zd11)) fun v1 =>
 if (!v1) = true then
 some (.inr (.inl (false, ())))
 else
 some (.inl (x1, (x2, ((IntKind.wrap .i64 (x3 + (1 : Int))), ()))))
 else
 none
 else
 none
 else
 none
 else
 none
 else
 some (.inr (.inr ()))
abbrev wf (x0 : (List Group)) (x1 : (List Group)) : Prop := wfA [(.val (.sl 0 zk19) .f), (.val (.sl 0 zk19) .f)] (x0, (x1, ()))
noncomputable def raw (x0 : (List Group)) (x1 : (List Group)) : Option zt17 :=
 if (!(decide (((List.length x0 : Nat) : Int) = ((List.length x1 : Nat) : Int)))) = true then
  some ((), (false, ()))
 else
  if (laws_eqGroupS.pre4 (x0, (x1, ((0 : Int), ())))) = true then
   letB (laws_eqGroupS.fn4 (x0, (x1, ((0 : Int), ())))) fun v1 =>
   match v1 with
   | .inl y =>
    some ((), y)
   | .inr y =>
    some ((), (true, ()))
  else
   none
theorem ok4 (x1 x2 : List Group) (x3 : Int) (hp : pre4 (x1, (x2, (x3, ()))) = true) : Rounds pre4 mu4 fn4 (x1, (x2, (x3, ()))) (raw4 x1 x2 x3) := by
 unfold raw4
 by_cases hlt : x3 < (x1.length : Int)
 · obtain ⟨h1, h2, h3, h4⟩ := eq_next hp hlt zd11
   simp only [letB, hlt, h1, h2, decide_true, if_true]
   by_cases h : x1.getD x3.toNat zd11 = x2.getD x3.toNat zd11
   · rw [if_neg (by rw [laws_eqGroup, same_true.2 h]; simp)]; exact h3 h
   · rw [if_pos (by rw [laws_eqGroup, same_false.2 h]; rfl)]; exact h4 h
 · simp only [hlt, decide_false, Bool.false_eq_true, if_false]
   exact eq_end hp hlt
theorem eq (x0 x1 : List Group) (hw : wf x0 x1) : raw x0 x1 = some ((), (laws_eqGroupS x0 x1, ())) := by
 have h1 : x0.length ≤ maxLen := hw.1.1
 unfold raw laws_eqGroupS
 by_cases hl : (x0.length : Int) = (x1.length : Int)
 · rw [if_neg (by simp [hl]), if_pos (show pre4 _ = true from eq_start h1 hl)]
   unfold fn4
   by_cases he : x0 = x1
   · rw [eqFn_eq he, same_true.2 he]; rfl
   · rw [eqFn_ne he, same_false.2 he]; rfl
 · have : ¬ x0 = x1 := fun h => hl (by rw [h])
   rw [if_pos (by simp [hl]), same_false.2 this]
end laws_eqGroupS
def laws_markGroupS (xs : List Group) (k : Int) : List Group × Int := (mkL mk_Group cnt_Group xs k, k + cntL cnt_Group xs)
namespace laws_markGroupS
def pre (xs : List Group) (k : Int) : Bool := mPre cnt_Group xs k
def pre2 := mkPre cnt_Group
def fn2 := mkFn mk_Group cnt_Group
def mu2 := mkMu (α := Group)
noncomputable def raw2 (x1 : Int) (x2 : Int) (x3 : (List Group)) : Option ((Int × (Int × ((List Group) × Unit))) ⊕ (Int × ((List Group) × Unit))) :=
 if (decide (x2 < ((List.length x3 : Nat) : Int))) = true then
 if (decide ((0 : Int) ≤ x2)) = true then
 if (decide (x2 < ((List.length x3 : Nat) : Int))) = true then
 if (decide ((0 : Int) ≤ x2)) = true then
 if (decide (x2 < ((List.length (List.modify x3 (Int.toNat x2) (fun z => (x1, z.2))) : Nat) : Int))) = true then
 if (laws_markIntS.pre (List.getD (List.modify x3 (Int.toNat x2) (fun z => (x1, z.2))) (Int.toNat x2) zd11).2.1 (IntKind.wrap .i64 (x1 + (1 : Int)))) = true then
 if (decide ((0 : Int) ≤ x2)) = true then
 if (decide (x2 < ((List.length (List.modify (List.modify x3 (Int.toNat x2) (fun z => (x1, z.2))) (Int.toNat x2) (fun z => (z.1, ((laws_markIntS (List.getD (List.modify x3 (Int.toNat x2) (fun z_1 => (x1, z_1.2))) (Int.toNat x2) zd11).2.1 (IntKind.wrap .i64 (x1 + (1 : Int)))).1, z.2.2)))) : Nat) : Int))) = true then
 letB (laws_markIntS (List.getD (List.modify x3 (Int.toNat x2) (fun z => (x1, z.2))) (Int.toNat x2) zd11).2.1 (IntKind.wrap .i64 (x1 + (1 : Int)))) fun v1 =>
 if (laws_markIntS.pre (List.getD (List.modify (List.modify x3 (Int.toNat x2) (fun z => (x1, z.2))) (Int.toNat x2) (fun z => (z.1, ((laws_markIntS (List.getD (List.modify x3 (Int.toNat x2) (fun z_1 => (x1, z_1.2))) (Int.toNat x2) zd11).2.1 (IntKind.wrap .i64 (x1 + (1 : Int)))).1, z.2.2)))) (Int.toNat x2) zd11).2.2.1 v1.2) = true then
 if (decide ((0 : Int) ≤ x2)) = true then
 if (decide (x2 < ((List.length (List.modify (List.modify (List.modify x3 (Int.toNat x2) (fun z => (x1, z.2))) (Int.toNat x2) (fun z => (z.1, (v1.1, z.2.2)))) (Int.toNat x2) (fun z => (z.1, (z.2.1, ((laws_markIntS (List.getD (List.modify (List.modify x3 (Int.toNat x2) (fun z_1 => (x1, z_1.2))) (Int.toNat x2) (fun z_1 => (z_1.1, (v1.1, z_1.2.2)))) (Int.toNat x2) zd11).2.2.1 v1.2).1, z.2.2.2))))) : Nat) : Int))) = true then
 letB (laws_markIntS (List.getD (List.modify (List.modify x3 (Int.toNat x2) (fun z => (x1, z.2))) (Int.toNat x2) (fun z => (z.1, (v1.1, z.2.2)))) (Int.toNat x2) zd11).2.2.1 v1.2) fun v2 =>
 if (laws_markIntS.pre (List.getD (List.modify (List.modify (List.modify x3 (Int.toNat x2) (fun z => (x1, z.2))) (Int.toNat x2) (fun z => (z.1, (v1.1, z.2.2)))) (Int.toNat x2) (fun z => (z.1, (z.2.1, ((laws_markIntS (List.getD (List.modify (List.modify x3 (Int.toNat x2) (fun z_1 => (x1, z_1.2))) (Int.toNat x2) (fun z_1 => (z_1.1, (v1.1, z_1.2.2)))) (Int.toNat x2) zd11).2.2.1 v1.2).1, z.2.2.2))))) (Int.toNat x2) zd11).2.2.2.1 v2.2) = true then
 letB (laws_markIntS (List.getD (List.modify (List.modify (List.modify x3 (Int.toNat x2) (fun z => (x1, z.2))) (Int.toNat x2) (fun z => (z.1, (v1.1, z.2.2)))) (Int.toNat x2) (fun z => (z.1, (z.2.1, (v2.1, z.2.2.2))))) (Int.toNat x2) zd11).2.2.2.1 v2.2) fun v3 =>
 some (.inl (v3.2, ((IntKind.wrap .i64 (x2 + (1 : Int))), ((List.modify (List.modify (List.modify (List.modify x3 (Int.toNat x2) (fun z => (x1, z.2))) (Int.toNat x2) (fun z => (z.1, (v1.1, z.2.2)))) (Int.toNat x2) (fun z => (z.1, (z.2.1, (v2.1, z.2.2.2))))) (Int.toNat x2) (fun z => (z.1, (z.2.1, (z.2.2.1, (v3.1, z.2.2.2.2)))))), ()))))
 else
 none
 else
 none
 else
 none
 else
 none
 else
 none
 else
 none
 else
 none
 else
 none
 else
 none
 else
 none
 else
 none
 else
 some (.inr (x1, (x3, ())))
abbrev wf (x0 : (List Group)) (x1 : Int) : Prop := wfA [(.mut (.sl 0 zk19)), (.val (.int .i64) .f)] (x0, (x1, ()))
noncomputable def raw (x0 : (List Group)) (x1 : Int) : Option (((List Group) × Unit) × (Int × Unit)) :=
 if (laws_markGroupS.pre2 (x1, ((0 : Int), (x0, ())))) = true then
 letB (laws_markGroupS.fn2 (x1, ((0 : Int), (x0, ())))) fun v1 =>
 some (v1.2, (v1.1, ()))
 else
 none
theorem ok2 (x1 x2 : Int) (x3 : List Group) (hp : pre2 (x1, (x2, (x3, ()))) = true) : Rounds pre2 mu2 fn2 (x1, (x2, (x3, ()))) (raw2 x1 x2 x3) := by
 unfold raw2
 by_cases hlt : x2 < (x3.length : Int)
 · obtain ⟨h0, hk, hc, hn⟩ := mk_facts mk_Group_ok hp hlt zd11
   generalize he : x3.getD x2.toNat zd11 = e at hc
   simp only [cnt_Group] at hc
   have n1 := cntL_nn mk_Int_ok e.2.1
   have n2 := cntL_nn mk_Int_ok e.2.2.1
   have n3 := cntL_nn mk_Int_ok e.2.2.2.1
   have w0 : IntKind.wrap .i64 (x1 + 1) = x1 + 1 := w64 (by omega) (by omega)
   have q1 : laws_markIntS.pre e.2.1 (x1 + 1) = true := markIntS_pre (by omega) (by omega)
   have q2 : laws_markIntS.pre e.2.2.1 (x1 + 1 + cntL cnt_Int e.2.1) = true := markIntS_pre (by omega) (by omega)
   have q3 : laws_markIntS.pre e.2.2.2.1 (x1 + 1 + cntL cnt_Int e.2.1 + cntL cnt_Int e.2.2.1) = true := markIntS_pre (by omega) (by omega)
   simp only [letB, List.length_modify, List.modify_modify_eq, getD_modify hn, Function.comp, hlt, h0, he, decide_true, if_true, w0, q1, q2, q3, markIntS_eq]
   exact mk_step mk_Group_ok hp hlt zd11 (by rw [he]; simp only [cnt_Group]; omega) (by rw [he]; rfl)
 · rw [if_neg (by simp [hlt])]; exact mk_end hp hlt
theorem eq (x0 : List Group) (x1 : Int) (_ : wf x0 x1) (hp : pre x0 x1 = true) : raw x0 x1 = some (((laws_markGroupS x0 x1).1, ()), ((laws_markGroupS x0 x1).2, ())) := by
 unfold raw
 rw [if_pos (show pre2 _ = true from mk_start mk_Group_ok hp)]
 rfl
end laws_markGroupS
theorem markGroupS_eq (xs : List Group) (k : Int) : laws_markGroupS xs k = (mkL mk_Group cnt_Group xs k, k + cntL cnt_Group xs) := rfl
theorem markGroupS_pre {xs : List Group} {k : Int} (h0 : 0 ≤ k) (h1 : k + cntL cnt_Group xs ≤ 134217728) : laws_markGroupS.pre xs k = true := mPre_iff.2 ⟨h0, h1⟩
noncomputable def laws_heldGroupS (xs : List Group) (k : Int) : Int := heldN (mkL mk_Group cnt_Group) (cntL cnt_Group) xs k
namespace laws_heldGroupS
def pre (xs : List Group) (k : Int) : Bool := mPre cnt_Group xs k
def pre2 := hePre cnt_Group
noncomputable def fn2 := heFn mk_Group cnt_Group
def mu2 := heMu (α := Group)
noncomputable def raw2 (x1 : (List Group)) (x2 : Int) (x3 : Int) : Option (((List Group) × Mark) ⊕ ((Int × Unit) ⊕ (Int × Unit))) :=
 if (decide (x3 < ((List.length x1 : Nat) : Int))) = true then
 if (decide ((0 : Int) ≤ x3)) = true then
 if (decide (x3 < ((List.length x1 : Nat) : Int))) = true then
 if (!(decide ((List.getD x1 (Int.toNat x3) zd11).1 = x2))) = true then
 some (.inr (.inl ((-1 : Int), ())))
 else
 if (decide ((0 : Int) ≤ x3)) = true then
 if (decide (x3 < ((List.length x1 : Nat) : Int))) = true then
 if (laws_heldIntS.pre (List.getD x1 (Int.toNat x3) zd11).2.1 (IntKind.wrap .i64 (x2 + (1 : Int)))) = true then
 letB (laws_heldIntS (List.getD x1 (Int.toNat x3) zd11).2.1 (IntKind.wrap .i64 (x2 + (1 : Int)))) fun v1 =>
 if (decide (v1 < (0 : Int))) = true then
 some (.inr (.inl ((-1 : Int), ())))
 else
 if (decide ((0 : Int) ≤ x3)) = true then
 if (decide (x3 < ((List.length x1 : Nat) : Int))) = true then
 if (laws_heldIntS.pre (List.getD x1 (Int.toNat x3) zd11).2.2.1 v1) = true then
 letB (laws_heldIntS (List.getD x1 (Int.toNat x3) zd11).2.2.1 v1) fun v2 =>
 if (decide (v2 < (0 : Int))) = true then
 some (.inr (.inl ((-1 : Int), ())))
 else
 if (decide ((0 : Int) ≤ x3)) = true then
 if (decide (x3 < ((List.length x1 : Nat) : Int))) = true then
 if (laws_heldIntS.pre (List.getD x1 (Int.toNat x3) zd11).2.2.2.1 v2) = true then
 letB (laws_heldIntS (List.getD x1 (Int.toNat x3) zd11).2.2.2.1 v2) fun v3 =>
 if (decide (v3 < (0 : Int))) = true then
 some (.inr (.inl ((-1 : Int), ())))
 else
 some (.inl (x1, (v3, ((IntKind.wrap .i64 (x3 + (1 : Int))), ()))))
 else
 none
 else
 none
 else
 none
 else
 none
 else
 none
 else
 none
 else
 none
 else
 none
 else
 none
 else
 none
 else
 none
 else
 some (.inr (.inr (x2, ())))
abbrev wf (x0 : (List Group)) (x1 : Int) : Prop := wfA [(.val (.sl 0 zk19) .f), (.val (.int .i64) .f)] (x0, (x1, ()))
noncomputable def raw (x0 : (List Group)) (x1 : Int) : Option zt28 :=
 if (laws_heldGroupS.pre2 (x0, (x1, ((0 : Int), ())))) = true then
  letB (laws_heldGroupS.fn2 (x0, (x1, ((0 : Int), ())))) fun v1 =>
  match v1 with
  | .inl y =>
   some ((), y)
  | .inr y =>
   some ((), y)
 else
  none
theorem ok2 (x1 : List Group) (x2 x3 : Int) (hp : pre2 (x1, (x2, (x3, ()))) = true) : Rounds pre2 mu2 fn2 (x1, (x2, (x3, ()))) (raw2 x1 x2 x3) := by
 unfold raw2
 by_cases hlt : x3 < (x1.length : Int)
 · obtain ⟨h0, hk, hc⟩ := he_facts mk_Group_ok hp hlt zd11
   have bad := he_bad (m := mk_Group) (g := cnt_Group) hp hlt zd11
   have good := fun K hK => he_good mk_Group_ok (K := K) hp hlt zd11 hK
   generalize x1.getD x3.toNat zd11 = e at *
   simp only [cnt_Group] at hc
   have n1 := cntL_nn mk_Int_ok e.2.1
   have n2 := cntL_nn mk_Int_ok e.2.2.1
   have n3 := cntL_nn mk_Int_ok e.2.2.2.1
   have w0 : IntKind.wrap .i64 (x2 + 1) = x2 + 1 := w64 (by omega) (by omega)
   have q1 : laws_heldIntS.pre e.2.1 (x2 + 1) = true := heldIntS_pre (by omega) (by omega)
   have q2 : laws_heldIntS.pre e.2.2.1 (x2 + 1 + cntL cnt_Int e.2.1) = true := heldIntS_pre (by omega) (by omega)
   have q3 : laws_heldIntS.pre e.2.2.2.1 (x2 + 1 + cntL cnt_Int e.2.1 + cntL cnt_Int e.2.2.1) = true := heldIntS_pre (by omega) (by omega)
   simp only [letB, hlt, h0, decide_true, if_true, w0, q1, q2, q3]
   by_cases c0 : e.1 = x2
   case neg => rw [if_pos (by simp [c0])]; exact bad fun h => c0 (congrArg (fun z : Group => z.1) h)
   rw [if_neg (by simp [c0])]
   by_cases c1 : e.2.1 = mkL mk_Int cnt_Int e.2.1 (x2 + 1)
   case neg => rw [show laws_heldIntS e.2.1 (x2 + 1) = -1 from heldIntS_neg c1, if_pos (by decide)]; exact bad fun h => c1 ((congrArg (fun z : Group => z.2.1) h).trans (by simp only [mk_Group]))
   rw [show laws_heldIntS e.2.1 (x2 + 1) = x2 + 1 + cntL cnt_Int e.2.1 from heldIntS_pos c1, if_neg (by rw [decide_eq_true_eq]; omega)]
   try simp only [if_true, w0, q1, q2, q3]
   by_cases c2 : e.2.2.1 = mkL mk_Int cnt_Int e.2.2.1 (x2 + 1 + cntL cnt_Int e.2.1)
   case neg => rw [show laws_heldIntS e.2.2.1 (x2 + 1 + cntL cnt_Int e.2.1) = -1 from heldIntS_neg c2, if_pos (by decide)]; exact bad fun h => c2 ((congrArg (fun z : Group => z.2.2.1) h).trans (by simp only [mk_Group]))
   rw [show laws_heldIntS e.2.2.1 (x2 + 1 + cntL cnt_Int e.2.1) = x2 + 1 + cntL cnt_Int e.2.1 + cntL cnt_Int e.2.2.1 from heldIntS_pos c2, if_neg (by rw [decide_eq_true_eq]; omega)]
   try simp only [if_true, w0, q1, q2, q3]
   by_cases c3 : e.2.2.2.1 = mkL mk_Int cnt_Int e.2.2.2.1 (x2 + 1 + cntL cnt_Int e.2.1 + cntL cnt_Int e.2.2.1)
   case neg => rw [show laws_heldIntS e.2.2.2.1 (x2 + 1 + cntL cnt_Int e.2.1 + cntL cnt_Int e.2.2.1) = -1 from heldIntS_neg c3, if_pos (by decide)]; exact bad fun h => c3 ((congrArg (fun z : Group => z.2.2.2.1) h).trans (by simp only [mk_Group]))
   rw [show laws_heldIntS e.2.2.2.1 (x2 + 1 + cntL cnt_Int e.2.1 + cntL cnt_Int e.2.2.1) = x2 + 1 + cntL cnt_Int e.2.1 + cntL cnt_Int e.2.2.1 + cntL cnt_Int e.2.2.2.1 from heldIntS_pos c3, if_neg (by rw [decide_eq_true_eq]; omega)]
   exact good _ (by simp only [cnt_Group]; omega) (Prod.ext c0 (Prod.ext c1 (Prod.ext c2 (Prod.ext c3 rfl))))
 · rw [if_neg (by simp [hlt])]; exact he_end hp hlt
theorem eq (x0 : List Group) (x1 : Int) (_ : wf x0 x1) (hp : pre x0 x1 = true) : raw x0 x1 = some ((), (laws_heldGroupS x0 x1, ())) := by
 unfold raw
 rw [if_pos (show pre2 _ = true from he_start mk_Group_ok hp)]
 exact heFn_start x0 x1
end laws_heldGroupS
theorem heldGroupS_pos {xs : List Group} {k : Int} (h : xs = mkL mk_Group cnt_Group xs k) : laws_heldGroupS xs k = k + cntL cnt_Group xs := heldN_pos h
theorem heldGroupS_neg {xs : List Group} {k : Int} (h : ¬ xs = mkL mk_Group cnt_Group xs k) : laws_heldGroupS xs k = -1 := heldN_neg h
theorem heldGroupS_pre {xs : List Group} {k : Int} (h0 : 0 ≤ k) (h1 : k + cntL cnt_Group xs ≤ 134217728) : laws_heldGroupS.pre xs k = true := mPre_iff.2 ⟨h0, h1⟩
def mkT_Keep (x : Keep) (k : Int) : Keep := (mkL mk_Row cnt_Row x.1 (k), (mkL mk_Maker cnt_Maker x.2.1 (k + cntL cnt_Row x.1), (mkL mk_Group cnt_Group x.2.2.1 (k + cntL cnt_Row x.1 + cntL cnt_Maker x.2.1), (x.2.2.2.1, (mkL mk_Int cnt_Int x.2.2.2.2.1 (k + cntL cnt_Row x.1 + cntL cnt_Maker x.2.1 + cntL cnt_Group x.2.2.1), (mkL mk_Answer cnt_Answer x.2.2.2.2.2.1 (k + cntL cnt_Row x.1 + cntL cnt_Maker x.2.1 + cntL cnt_Group x.2.2.1 + cntL cnt_Int x.2.2.2.2.1), ()))))))
def cntT_Keep (x : Keep) : Int := cntL cnt_Row x.1 + cntL cnt_Maker x.2.1 + cntL cnt_Group x.2.2.1 + cntL cnt_Int x.2.2.2.2.1 + cntL cnt_Answer x.2.2.2.2.2.1
theorem cntT_Keep_nn (x : Keep) : 0 ≤ cntT_Keep x := by
 have n0 := cntL_nn mk_Row_ok x.1
 have n1 := cntL_nn mk_Maker_ok x.2.1
 have n2 := cntL_nn mk_Group_ok x.2.2.1
 have n4 := cntL_nn mk_Int_ok x.2.2.2.2.1
 have n5 := cntL_nn mk_Answer_ok x.2.2.2.2.2.1
 simp only [cntT_Keep]; omega
theorem mkT_Keep_keep (x : Keep) (k : Int) : cntT_Keep (mkT_Keep x k) = cntT_Keep x := by simp only [cntT_Keep, mkT_Keep, cntL_mkL mk_Answer_ok, cntL_mkL mk_Group_ok, cntL_mkL mk_Int_ok, cntL_mkL mk_Maker_ok, cntL_mkL mk_Row_ok]
theorem mkT_Keep_idem (x : Keep) (k : Int) : mkT_Keep (mkT_Keep x k) k = mkT_Keep x k := by simp only [mkT_Keep, cntL_mkL mk_Answer_ok, cntL_mkL mk_Group_ok, cntL_mkL mk_Int_ok, cntL_mkL mk_Maker_ok, cntL_mkL mk_Row_ok, mkL_mkL mk_Answer_ok, mkL_mkL mk_Group_ok, mkL_mkL mk_Int_ok, mkL_mkL mk_Maker_ok, mkL_mkL mk_Row_ok]
noncomputable def laws_eqKeep (a b : Keep) : Bool := same a b
namespace laws_eqKeep
abbrev wf (x0 : zt6) (x1 : zt6) : Prop := wfA [(.val zk1 .f), (.val zk1 .f)] (x0, (x1, ()))
noncomputable def raw (x0 : zt6) (x1 : zt6) : Option zt17 :=
 letB (laws_eqRowS x0.1 x1.1) fun v1 =>
 if (!v1) = true then
 some ((), (false, ()))
 else
 letB (laws_eqMakerS x0.2.1 x1.2.1) fun v2 =>
 if (!v2) = true then
 some ((), (false, ()))
 else
 letB (laws_eqGroupS x0.2.2.1 x1.2.2.1) fun v3 =>
 if (!v3) = true then
 some ((), (false, ()))
 else
 if (!(decide (x0.2.2.2.1 = x1.2.2.2.1))) = true then
 some ((), (false, ()))
 else
 letB (laws_eqIntS x0.2.2.2.2.1 x1.2.2.2.2.1) fun v4 =>
 if (!v4) = true then
 some ((), (false, ()))
 else
 letB (laws_eqAnswerS x0.2.2.2.2.2.1 x1.2.2.2.2.2.1) fun v5 =>
 if (!v5) = true then
 some ((), (false, ()))
 else
 some ((), (true, ()))
theorem eq (x0 x1 : Keep) (_ : wf x0 x1) : raw x0 x1 = some ((), (laws_eqKeep x0 x1, ())) := by
 unfold raw laws_eqKeep
 try simp only [letB]
 by_cases c0 : x0.1 = x1.1
 case neg => rw [if_pos (by rw [laws_eqRowS, same_false.2 c0]; rfl), same_false.2 (fun h => c0 (congrArg (fun z : Keep => z.1) h))]
 rw [if_neg (by rw [laws_eqRowS, same_true.2 c0]; simp)]
 by_cases c1 : x0.2.1 = x1.2.1
 case neg => rw [if_pos (by rw [laws_eqMakerS, same_false.2 c1]; rfl), same_false.2 (fun h => c1 (congrArg (fun z : Keep => z.2.1) h))]
 rw [if_neg (by rw [laws_eqMakerS, same_true.2 c1]; simp)]
 by_cases c2 : x0.2.2.1 = x1.2.2.1
 case neg => rw [if_pos (by rw [laws_eqGroupS, same_false.2 c2]; rfl), same_false.2 (fun h => c2 (congrArg (fun z : Keep => z.2.2.1) h))]
 rw [if_neg (by rw [laws_eqGroupS, same_true.2 c2]; simp)]
 by_cases c3 : x0.2.2.2.1 = x1.2.2.2.1
 case neg => rw [if_pos (by simp [c3]), same_false.2 (fun h => c3 (congrArg (fun z : Keep => z.2.2.2.1) h))]
 rw [if_neg (by simp [c3])]
 by_cases c4 : x0.2.2.2.2.1 = x1.2.2.2.2.1
 case neg => rw [if_pos (by rw [laws_eqIntS, same_false.2 c4]; rfl), same_false.2 (fun h => c4 (congrArg (fun z : Keep => z.2.2.2.2.1) h))]
 rw [if_neg (by rw [laws_eqIntS, same_true.2 c4]; simp)]
 by_cases c5 : x0.2.2.2.2.2.1 = x1.2.2.2.2.2.1
 case neg => rw [if_pos (by rw [laws_eqAnswerS, same_false.2 c5]; rfl), same_false.2 (fun h => c5 (congrArg (fun z : Keep => z.2.2.2.2.2.1) h))]
 rw [if_neg (by rw [laws_eqAnswerS, same_true.2 c5]; simp)]
 rw [same_true.2 (Prod.ext c0 (Prod.ext c1 (Prod.ext c2 (Prod.ext c3 (Prod.ext c4 (Prod.ext c5 rfl))))))]
end laws_eqKeep
def laws_markKeep (x : Keep) (k : Int) : Keep × Int := (mkT_Keep x k, k + cntT_Keep x)
namespace laws_markKeep
def pre (x : Keep) (k : Int) : Bool := decide (0 ≤ k) && decide (k + cntT_Keep x ≤ 134217728)
abbrev wf (x0 : zt6) (x1 : Int) : Prop := wfA [(.mut zk1), (.val (.int .i64) .f)] (x0, (x1, ()))
noncomputable def raw (x0 : zt6) (x1 : Int) : Option ((zt6 × Unit) × (Int × Unit)) :=
 if (laws_markRowS.pre x0.1 x1) = true then
 letB (laws_markRowS x0.1 x1) fun v1 =>
 if (laws_markMakerS.pre x0.2.1 v1.2) = true then
 letB (laws_markMakerS x0.2.1 v1.2) fun v2 =>
 if (laws_markGroupS.pre x0.2.2.1 v2.2) = true then
 letB (laws_markGroupS x0.2.2.1 v2.2) fun v3 =>
 if (laws_markIntS.pre x0.2.2.2.2.1 v3.2) = true then
 letB (laws_markIntS x0.2.2.2.2.1 v3.2) fun v4 =>
 if (laws_markAnswerS.pre x0.2.2.2.2.2.1 v4.2) = true then
 letB (laws_markAnswerS x0.2.2.2.2.2.1 v4.2) fun v5 =>
 some (((v1.1, (v2.1, (v3.1, (x0.2.2.2.1, (v4.1, (v5.1, x0.2.2.2.2.2.2)))))), ()), (v5.2, ()))
 else
 none
 else
 none
 else
 none
 else
 none
 else
 none
theorem eq (x0 : Keep) (x1 : Int) (_ : wf x0 x1) (hp : pre x0 x1 = true) : raw x0 x1 = some (((laws_markKeep x0 x1).1, ()), ((laws_markKeep x0 x1).2, ())) := by
 simp only [pre, Bool.and_eq_true, decide_eq_true_eq] at hp
 simp only [cntT_Keep] at hp
 have n0 := cntL_nn mk_Row_ok x0.1
 have n1 := cntL_nn mk_Maker_ok x0.2.1
 have n2 := cntL_nn mk_Group_ok x0.2.2.1
 have n4 := cntL_nn mk_Int_ok x0.2.2.2.2.1
 have n5 := cntL_nn mk_Answer_ok x0.2.2.2.2.2.1
 have q0 : laws_markRowS.pre x0.1 (x1) = true := markRowS_pre (by omega) (by omega)
 have q1 : laws_markMakerS.pre x0.2.1 (x1 + cntL cnt_Row x0.1) = true := markMakerS_pre (by omega) (by omega)
 have q2 : laws_markGroupS.pre x0.2.2.1 (x1 + cntL cnt_Row x0.1 + cntL cnt_Maker x0.2.1) = true := markGroupS_pre (by omega) (by omega)
 have q4 : laws_markIntS.pre x0.2.2.2.2.1 (x1 + cntL cnt_Row x0.1 + cntL cnt_Maker x0.2.1 + cntL cnt_Group x0.2.2.1) = true := markIntS_pre (by omega) (by omega)
 have q5 : laws_markAnswerS.pre x0.2.2.2.2.2.1 (x1 + cntL cnt_Row x0.1 + cntL cnt_Maker x0.2.1 + cntL cnt_Group x0.2.2.1 + cntL cnt_Int x0.2.2.2.2.1) = true := markAnswerS_pre (by omega) (by omega)
 unfold raw
 simp only [letB, if_true, q0, q1, q2, q4, q5, markAnswerS_eq, markGroupS_eq, markIntS_eq, markMakerS_eq, markRowS_eq]
 refine congrArg some (Prod.ext rfl (Prod.ext ?_ rfl))
 show _ = _
 simp only [laws_markKeep, cntT_Keep]; omega
end laws_markKeep
theorem markKeep_eq (x : Keep) (k : Int) : laws_markKeep x k = (mkT_Keep x k, k + cntT_Keep x) := rfl
theorem markKeep_pre {x : Keep} {k : Int} (h0 : 0 ≤ k) (h1 : k + cntT_Keep x ≤ 134217728) : laws_markKeep.pre x k = true := by simp [laws_markKeep.pre, h0, h1]
noncomputable def laws_heldKeep (x : Keep) (k : Int) : Int := heldN mkT_Keep cntT_Keep x k
namespace laws_heldKeep
def pre (x : Keep) (k : Int) : Bool := decide (0 ≤ k) && decide (k + cntT_Keep x ≤ 134217728)
abbrev wf (x0 : zt6) (x1 : Int) : Prop := wfA [(.val zk1 .f), (.val (.int .i64) .f)] (x0, (x1, ()))
noncomputable def raw (x0 : zt6) (x1 : Int) : Option zt28 :=
 if (laws_heldRowS.pre x0.1 x1) = true then
 letB (laws_heldRowS x0.1 x1) fun v1 =>
 if (decide (v1 < (0 : Int))) = true then
 some ((), ((-1 : Int), ()))
 else
 if (laws_heldMakerS.pre x0.2.1 v1) = true then
 letB (laws_heldMakerS x0.2.1 v1) fun v2 =>
 if (decide (v2 < (0 : Int))) = true then
 some ((), ((-1 : Int), ()))
 else
 if (laws_heldGroupS.pre x0.2.2.1 v2) = true then
 letB (laws_heldGroupS x0.2.2.1 v2) fun v3 =>
 if (decide (v3 < (0 : Int))) = true then
 some ((), ((-1 : Int), ()))
 else
 if (laws_heldIntS.pre x0.2.2.2.2.1 v3) = true then
 letB (laws_heldIntS x0.2.2.2.2.1 v3) fun v4 =>
 if (decide (v4 < (0 : Int))) = true then
 some ((), ((-1 : Int), ()))
 else
 if (laws_heldAnswerS.pre x0.2.2.2.2.2.1 v4) = true then
 letB (laws_heldAnswerS x0.2.2.2.2.2.1 v4) fun v5 =>
 if (decide (v5 < (0 : Int))) = true then
 some ((), ((-1 : Int), ()))
 else
 some ((), (v5, ()))
 else
 none
 else
 none
 else
 none
 else
 none
 else
 none
theorem eq (x0 : Keep) (x1 : Int) (_ : wf x0 x1) (hp : pre x0 x1 = true) : raw x0 x1 = some ((), (laws_heldKeep x0 x1, ())) := by
 simp only [pre, Bool.and_eq_true, decide_eq_true_eq] at hp
 simp only [cntT_Keep] at hp
 have n0 := cntL_nn mk_Row_ok x0.1
 have n1 := cntL_nn mk_Maker_ok x0.2.1
 have n2 := cntL_nn mk_Group_ok x0.2.2.1
 have n4 := cntL_nn mk_Int_ok x0.2.2.2.2.1
 have n5 := cntL_nn mk_Answer_ok x0.2.2.2.2.2.1
 have q0 : laws_heldRowS.pre x0.1 (x1) = true := heldRowS_pre (by omega) (by omega)
 have q1 : laws_heldMakerS.pre x0.2.1 (x1 + cntL cnt_Row x0.1) = true := heldMakerS_pre (by omega) (by omega)
 have q2 : laws_heldGroupS.pre x0.2.2.1 (x1 + cntL cnt_Row x0.1 + cntL cnt_Maker x0.2.1) = true := heldGroupS_pre (by omega) (by omega)
 have q4 : laws_heldIntS.pre x0.2.2.2.2.1 (x1 + cntL cnt_Row x0.1 + cntL cnt_Maker x0.2.1 + cntL cnt_Group x0.2.2.1) = true := heldIntS_pre (by omega) (by omega)
 have q5 : laws_heldAnswerS.pre x0.2.2.2.2.2.1 (x1 + cntL cnt_Row x0.1 + cntL cnt_Maker x0.2.1 + cntL cnt_Group x0.2.2.1 + cntL cnt_Int x0.2.2.2.2.1) = true := heldAnswerS_pre (by omega) (by omega)
 unfold raw laws_heldKeep
 simp only [letB, if_true, q0, q1, q2, q4, q5]
 by_cases c0 : x0.1 = mkL mk_Row cnt_Row x0.1 (x1)
 case neg => rw [show laws_heldRowS x0.1 (x1) = -1 from heldRowS_neg c0, if_pos (by decide), heldN_neg (fun h => c0 (congrArg (fun z : Keep => z.1) h))]
 rw [show laws_heldRowS x0.1 (x1) = x1 + cntL cnt_Row x0.1 from heldRowS_pos c0, if_neg (by rw [decide_eq_true_eq]; omega)]
 try simp only [if_true, q0, q1, q2, q4, q5]
 by_cases c1 : x0.2.1 = mkL mk_Maker cnt_Maker x0.2.1 (x1 + cntL cnt_Row x0.1)
 case neg => rw [show laws_heldMakerS x0.2.1 (x1 + cntL cnt_Row x0.1) = -1 from heldMakerS_neg c1, if_pos (by decide), heldN_neg (fun h => c1 (congrArg (fun z : Keep => z.2.1) h))]
 rw [show laws_heldMakerS x0.2.1 (x1 + cntL cnt_Row x0.1) = x1 + cntL cnt_Row x0.1 + cntL cnt_Maker x0.2.1 from heldMakerS_pos c1, if_neg (by rw [decide_eq_true_eq]; omega)]
 try simp only [if_true, q0, q1, q2, q4, q5]
 by_cases c2 : x0.2.2.1 = mkL mk_Group cnt_Group x0.2.2.1 (x1 + cntL cnt_Row x0.1 + cntL cnt_Maker x0.2.1)
 case neg => rw [show laws_heldGroupS x0.2.2.1 (x1 + cntL cnt_Row x0.1 + cntL cnt_Maker x0.2.1) = -1 from heldGroupS_neg c2, if_pos (by decide), heldN_neg (fun h => c2 (congrArg (fun z : Keep => z.2.2.1) h))]
 rw [show laws_heldGroupS x0.2.2.1 (x1 + cntL cnt_Row x0.1 + cntL cnt_Maker x0.2.1) = x1 + cntL cnt_Row x0.1 + cntL cnt_Maker x0.2.1 + cntL cnt_Group x0.2.2.1 from heldGroupS_pos c2, if_neg (by rw [decide_eq_true_eq]; omega)]
 try simp only [if_true, q0, q1, q2, q4, q5]
 by_cases c4 : x0.2.2.2.2.1 = mkL mk_Int cnt_Int x0.2.2.2.2.1 (x1 + cntL cnt_Row x0.1 + cntL cnt_Maker x0.2.1 + cntL cnt_Group x0.2.2.1)
 case neg => rw [show laws_heldIntS x0.2.2.2.2.1 (x1 + cntL cnt_Row x0.1 + cntL cnt_Maker x0.2.1 + cntL cnt_Group x0.2.2.1) = -1 from heldIntS_neg c4, if_pos (by decide), heldN_neg (fun h => c4 (congrArg (fun z : Keep => z.2.2.2.2.1) h))]
 rw [show laws_heldIntS x0.2.2.2.2.1 (x1 + cntL cnt_Row x0.1 + cntL cnt_Maker x0.2.1 + cntL cnt_Group x0.2.2.1) = x1 + cntL cnt_Row x0.1 + cntL cnt_Maker x0.2.1 + cntL cnt_Group x0.2.2.1 + cntL cnt_Int x0.2.2.2.2.1 from heldIntS_pos c4, if_neg (by rw [decide_eq_true_eq]; omega)]
 try simp only [if_true, q0, q1, q2, q4, q5]
 by_cases c5 : x0.2.2.2.2.2.1 = mkL mk_Answer cnt_Answer x0.2.2.2.2.2.1 (x1 + cntL cnt_Row x0.1 + cntL cnt_Maker x0.2.1 + cntL cnt_Group x0.2.2.1 + cntL cnt_Int x0.2.2.2.2.1)
 case neg => rw [show laws_heldAnswerS x0.2.2.2.2.2.1 (x1 + cntL cnt_Row x0.1 + cntL cnt_Maker x0.2.1 + cntL cnt_Group x0.2.2.1 + cntL cnt_Int x0.2.2.2.2.1) = -1 from heldAnswerS_neg c5, if_pos (by decide), heldN_neg (fun h => c5 (congrArg (fun z : Keep => z.2.2.2.2.2.1) h))]
 rw [show laws_heldAnswerS x0.2.2.2.2.2.1 (x1 + cntL cnt_Row x0.1 + cntL cnt_Maker x0.2.1 + cntL cnt_Group x0.2.2.1 + cntL cnt_Int x0.2.2.2.2.1) = x1 + cntL cnt_Row x0.1 + cntL cnt_Maker x0.2.1 + cntL cnt_Group x0.2.2.1 + cntL cnt_Int x0.2.2.2.2.1 + cntL cnt_Answer x0.2.2.2.2.2.1 from heldAnswerS_pos c5, if_neg (by rw [decide_eq_true_eq]; omega)]
 rw [heldN_pos (m := mkT_Keep) (g := cntT_Keep) (Prod.ext c0 (Prod.ext c1 (Prod.ext c2 (Prod.ext rfl (Prod.ext c4 (Prod.ext c5 rfl)))))), show x1 + cntL cnt_Row x0.1 + cntL cnt_Maker x0.2.1 + cntL cnt_Group x0.2.2.1 + cntL cnt_Int x0.2.2.2.2.1 + cntL cnt_Answer x0.2.2.2.2.2.1 = x1 + cntT_Keep x0 by simp only [cntT_Keep]; omega]
end laws_heldKeep
theorem heldKeep_pos {x : Keep} {k : Int} (h : x = mkT_Keep x k) : laws_heldKeep x k = k + cntT_Keep x := heldN_pos h
theorem heldKeep_neg {x : Keep} {k : Int} (h : ¬ x = mkT_Keep x k) : laws_heldKeep x k = -1 := heldN_neg h
theorem heldKeep_pre {x : Keep} {k : Int} (h0 : 0 ≤ k) (h1 : k + cntT_Keep x ≤ 134217728) : laws_heldKeep.pre x k = true := by simp [laws_heldKeep.pre, h0, h1]
def mkT_Hard (x : Hard) (k : Int) : Hard := (x.1, (x.2.1, (mkT_Log x.2.2.1 (k), (mkT_Keep x.2.2.2.1 (k + cntT_Log x.2.2.1), ()))))
def cntT_Hard (x : Hard) : Int := cntT_Log x.2.2.1 + cntT_Keep x.2.2.2.1
theorem cntT_Hard_nn (x : Hard) : 0 ≤ cntT_Hard x := by
 have n2 := cntT_Log_nn x.2.2.1
 have n3 := cntT_Keep_nn x.2.2.2.1
 simp only [cntT_Hard]; omega
theorem mkT_Hard_keep (x : Hard) (k : Int) : cntT_Hard (mkT_Hard x k) = cntT_Hard x := by simp only [cntT_Hard, mkT_Hard, mkT_Keep_keep, mkT_Log_keep]
theorem mkT_Hard_idem (x : Hard) (k : Int) : mkT_Hard (mkT_Hard x k) k = mkT_Hard x k := by simp only [mkT_Hard, mkT_Keep_keep, mkT_Log_keep, mkT_Keep_idem, mkT_Log_idem]
noncomputable def laws_eqHard (a b : Hard) : Bool := same a b
namespace laws_eqHard
abbrev wf (x0 : zt27) (x1 : zt27) : Prop := wfA [(.val zk29 .f), (.val zk29 .f)] (x0, (x1, ()))
noncomputable def raw (x0 : zt27) (x1 : zt27) : Option zt17 :=
 if (!(decide (x0.1 = x1.1))) = true then
 some ((), (false, ()))
 else
 if (!(decide (x0.2.1 = x1.2.1))) = true then
 some ((), (false, ()))
 else
 letB (laws_eqLog x0.2.2.1 x1.2.2.1) fun v1 =>
 if (!v1) = true then
 some ((), (false, ()))
 else
 letB (laws_eqKeep x0.2.2.2.1 x1.2.2.2.1) fun v2 =>
 if (!v2) = true then
 some ((), (false, ()))
 else
 some ((), (true, ()))
theorem eq (x0 x1 : Hard) (_ : wf x0 x1) : raw x0 x1 = some ((), (laws_eqHard x0 x1, ())) := by
 unfold raw laws_eqHard
 try simp only [letB]
 by_cases c0 : x0.1 = x1.1
 case neg => rw [if_pos (by simp [c0]), same_false.2 (fun h => c0 (congrArg (fun z : Hard => z.1) h))]
 rw [if_neg (by simp [c0])]
 by_cases c1 : x0.2.1 = x1.2.1
 case neg => rw [if_pos (by simp [c1]), same_false.2 (fun h => c1 (congrArg (fun z : Hard => z.2.1) h))]
 rw [if_neg (by simp [c1])]
 by_cases c2 : x0.2.2.1 = x1.2.2.1
 case neg => rw [if_pos (by rw [laws_eqLog, same_false.2 c2]; rfl), same_false.2 (fun h => c2 (congrArg (fun z : Hard => z.2.2.1) h))]
 rw [if_neg (by rw [laws_eqLog, same_true.2 c2]; simp)]
 by_cases c3 : x0.2.2.2.1 = x1.2.2.2.1
 case neg => rw [if_pos (by rw [laws_eqKeep, same_false.2 c3]; rfl), same_false.2 (fun h => c3 (congrArg (fun z : Hard => z.2.2.2.1) h))]
 rw [if_neg (by rw [laws_eqKeep, same_true.2 c3]; simp)]
 rw [same_true.2 (Prod.ext c0 (Prod.ext c1 (Prod.ext c2 (Prod.ext c3 rfl))))]
end laws_eqHard
def laws_markHard (x : Hard) (k : Int) : Hard × Int := (mkT_Hard x k, k + cntT_Hard x)
namespace laws_markHard
def pre (x : Hard) (k : Int) : Bool := decide (0 ≤ k) && decide (k + cntT_Hard x ≤ 134217728)
abbrev wf (x0 : zt27) (x1 : Int) : Prop := wfA [(.mut zk29), (.val (.int .i64) .f)] (x0, (x1, ()))
noncomputable def raw (x0 : zt27) (x1 : Int) : Option ((zt27 × Unit) × (Int × Unit)) :=
 if (laws_markLog.pre x0.2.2.1 x1) = true then
 letB (laws_markLog x0.2.2.1 x1) fun v1 =>
 if (laws_markKeep.pre x0.2.2.2.1 v1.2) = true then
 letB (laws_markKeep x0.2.2.2.1 v1.2) fun v2 =>
 some (((x0.1, (x0.2.1, ((x0.2.2.1.1, (x0.2.2.1.2.1, (v1.1.2.2.1, x0.2.2.1.2.2.2))), ((v2.1.1, (v2.1.2.1, (v2.1.2.2.1, (x0.2.2.2.1.2.2.2.1, (v2.1.2.2.2.2.1, (v2.1.2.2.2.2.2.1, x0.2.2.2.1.2.2.2.2.2.2)))))), x0.2.2.2.2)))), ()), (v2.2, ()))
 else
 none
 else
 none
theorem eq (x0 : Hard) (x1 : Int) (_ : wf x0 x1) (hp : pre x0 x1 = true) : raw x0 x1 = some (((laws_markHard x0 x1).1, ()), ((laws_markHard x0 x1).2, ())) := by
 simp only [pre, Bool.and_eq_true, decide_eq_true_eq] at hp
 simp only [cntT_Hard] at hp
 have n2 := cntT_Log_nn x0.2.2.1
 have n3 := cntT_Keep_nn x0.2.2.2.1
 have q2 : laws_markLog.pre x0.2.2.1 (x1) = true := markLogK_pre (by omega) (by omega)
 have q3 : laws_markKeep.pre x0.2.2.2.1 (x1 + cntT_Log x0.2.2.1) = true := markKeep_pre (by omega) (by omega)
 unfold raw
 simp only [letB, if_true, q2, q3, markKeep_eq, markLog_eq]
 refine congrArg some (Prod.ext rfl (Prod.ext ?_ rfl))
 show _ = _
 simp only [laws_markHard, cntT_Hard]; omega
end laws_markHard
theorem markHard_eq (x : Hard) (k : Int) : laws_markHard x k = (mkT_Hard x k, k + cntT_Hard x) := rfl
theorem markHard_pre {x : Hard} {k : Int} (h0 : 0 ≤ k) (h1 : k + cntT_Hard x ≤ 134217728) : laws_markHard.pre x k = true := by simp [laws_markHard.pre, h0, h1]
noncomputable def laws_heldHard (x : Hard) (k : Int) : Int := heldN mkT_Hard cntT_Hard x k
namespace laws_heldHard
def pre (x : Hard) (k : Int) : Bool := decide (0 ≤ k) && decide (k + cntT_Hard x ≤ 134217728)
abbrev wf (x0 : zt27) (x1 : Int) : Prop := wfA [(.val zk29 .f), (.val (.int .i64) .f)] (x0, (x1, ()))
noncomputable def raw (x0 : zt27) (x1 : Int) : Option zt28 :=
 if (laws_heldLog.pre x0.2.2.1 x1) = true then
 letB (laws_heldLog x0.2.2.1 x1) fun v1 =>
 if (decide (v1 < (0 : Int))) = true then
 some ((), ((-1 : Int), ()))
 else
 if (laws_heldKeep.pre x0.2.2.2.1 v1) = true then
 letB (laws_heldKeep x0.2.2.2.1 v1) fun v2 =>
 if (decide (v2 < (0 : Int))) = true then
 some ((), ((-1 : Int), ()))
 else
 some ((), (v2, ()))
 else
 none
 else
 none
theorem eq (x0 : Hard) (x1 : Int) (_ : wf x0 x1) (hp : pre x0 x1 = true) : raw x0 x1 = some ((), (laws_heldHard x0 x1, ())) := by
 simp only [pre, Bool.and_eq_true, decide_eq_true_eq] at hp
 simp only [cntT_Hard] at hp
 have n2 := cntT_Log_nn x0.2.2.1
 have n3 := cntT_Keep_nn x0.2.2.2.1
 have q2 : laws_heldLog.pre x0.2.2.1 (x1) = true := heldLogK_pre (by omega) (by omega)
 have q3 : laws_heldKeep.pre x0.2.2.2.1 (x1 + cntT_Log x0.2.2.1) = true := heldKeep_pre (by omega) (by omega)
 unfold raw laws_heldHard
 simp only [letB, if_true, q2, q3]
 by_cases c2 : x0.2.2.1 = mkT_Log x0.2.2.1 (x1)
 case neg => rw [show laws_heldLog x0.2.2.1 (x1) = -1 from heldLog_neg c2, if_pos (by decide), heldN_neg (fun h => c2 (congrArg (fun z : Hard => z.2.2.1) h))]
 rw [show laws_heldLog x0.2.2.1 (x1) = x1 + cntT_Log x0.2.2.1 from heldLog_pos c2 (by omega), if_neg (by rw [decide_eq_true_eq]; omega)]
 try simp only [if_true, q2, q3]
 by_cases c3 : x0.2.2.2.1 = mkT_Keep x0.2.2.2.1 (x1 + cntT_Log x0.2.2.1)
 case neg => rw [show laws_heldKeep x0.2.2.2.1 (x1 + cntT_Log x0.2.2.1) = -1 from heldKeep_neg c3, if_pos (by decide), heldN_neg (fun h => c3 (congrArg (fun z : Hard => z.2.2.2.1) h))]
 rw [show laws_heldKeep x0.2.2.2.1 (x1 + cntT_Log x0.2.2.1) = x1 + cntT_Log x0.2.2.1 + cntT_Keep x0.2.2.2.1 from heldKeep_pos c3, if_neg (by rw [decide_eq_true_eq]; omega)]
 rw [heldN_pos (m := mkT_Hard) (g := cntT_Hard) (Prod.ext rfl (Prod.ext rfl (Prod.ext c2 (Prod.ext c3 rfl)))), show x1 + cntT_Log x0.2.2.1 + cntT_Keep x0.2.2.2.1 = x1 + cntT_Hard x0 by simp only [cntT_Hard]; omega]
end laws_heldHard
theorem heldHard_pos {x : Hard} {k : Int} (h : x = mkT_Hard x k) : laws_heldHard x k = k + cntT_Hard x := heldN_pos h
theorem heldHard_neg {x : Hard} {k : Int} (h : ¬ x = mkT_Hard x k) : laws_heldHard x k = -1 := heldN_neg h
theorem heldHard_pre {x : Hard} {k : Int} (h0 : 0 ≤ k) (h1 : k + cntT_Hard x ≤ 134217728) : laws_heldHard.pre x k = true := by simp [laws_heldHard.pre, h0, h1]
def mkT_Disk (x : Disk) (k : Int) : Disk := (mkL mk_Byte cnt_Byte x.1 (k), (x.2.1, ()))
def cntT_Disk (x : Disk) : Int := cntL cnt_Byte x.1
theorem cntT_Disk_nn (x : Disk) : 0 ≤ cntT_Disk x := by
 have n0 := cntL_nn mk_Byte_ok x.1
 simp only [cntT_Disk]; omega
theorem mkT_Disk_keep (x : Disk) (k : Int) : cntT_Disk (mkT_Disk x k) = cntT_Disk x := by simp only [cntT_Disk, mkT_Disk, cntL_mkL mk_Byte_ok]
theorem mkT_Disk_idem (x : Disk) (k : Int) : mkT_Disk (mkT_Disk x k) k = mkT_Disk x k := by simp only [mkT_Disk, cntL_mkL mk_Byte_ok, mkL_mkL mk_Byte_ok]
noncomputable def laws_eqDisk (a b : Disk) : Bool := same a b
namespace laws_eqDisk
abbrev wf (x0 : Disk) (x1 : Disk) : Prop := wfA [(.val zk33 .f), (.val zk33 .f)] (x0, (x1, ()))
noncomputable def raw (x0 : Disk) (x1 : Disk) : Option zt17 :=
 letB (laws_eqByteS x0.1 x1.1) fun v1 =>
 if (!v1) = true then
 some ((), (false, ()))
 else
 if (!(decide (x0.2.1 = x1.2.1))) = true then
 some ((), (false, ()))
 else
 some ((), (true, ()))
theorem eq (x0 x1 : Disk) (_ : wf x0 x1) : raw x0 x1 = some ((), (laws_eqDisk x0 x1, ())) := by
 unfold raw laws_eqDisk
 try simp only [letB]
 by_cases c0 : x0.1 = x1.1
 case neg => rw [if_pos (by rw [laws_eqByteS, same_false.2 c0]; rfl), same_false.2 (fun h => c0 (congrArg (fun z : Disk => z.1) h))]
 rw [if_neg (by rw [laws_eqByteS, same_true.2 c0]; simp)]
 by_cases c1 : x0.2.1 = x1.2.1
 case neg => rw [if_pos (by simp [c1]), same_false.2 (fun h => c1 (congrArg (fun z : Disk => z.2.1) h))]
 rw [if_neg (by simp [c1])]
 rw [same_true.2 (Prod.ext c0 (Prod.ext c1 rfl))]
end laws_eqDisk
def laws_markDisk (x : Disk) (k : Int) : Disk × Int := (mkT_Disk x k, k + cntT_Disk x)
namespace laws_markDisk
def pre (x : Disk) (k : Int) : Bool := decide (0 ≤ k) && decide (k + cntT_Disk x ≤ 134217728)
abbrev wf (x0 : Disk) (x1 : Int) : Prop := wfA [(.mut zk33), (.val (.int .i64) .f)] (x0, (x1, ()))
noncomputable def raw (x0 : Disk) (x1 : Int) : Option ((Disk × Unit) × (Int × Unit)) :=
 if (laws_markByteS.pre x0.1 x1) = true then
 letB (laws_markByteS x0.1 x1) fun v1 =>
 some (((v1.1, x0.2), ()), (v1.2, ()))
 else
 none
theorem eq (x0 : Disk) (x1 : Int) (_ : wf x0 x1) (hp : pre x0 x1 = true) : raw x0 x1 = some (((laws_markDisk x0 x1).1, ()), ((laws_markDisk x0 x1).2, ())) := by
 simp only [pre, Bool.and_eq_true, decide_eq_true_eq] at hp
 simp only [cntT_Disk] at hp
 have n0 := cntL_nn mk_Byte_ok x0.1
 have q0 : laws_markByteS.pre x0.1 (x1) = true := markByteS_pre (by omega) (by omega)
 unfold raw
 simp only [letB, if_true, q0, markByteS_eq]
 refine congrArg some (Prod.ext rfl (Prod.ext ?_ rfl))
 show _ = _
 simp only [laws_markDisk, cntT_Disk]
end laws_markDisk
theorem markDisk_eq (x : Disk) (k : Int) : laws_markDisk x k = (mkT_Disk x k, k + cntT_Disk x) := rfl
theorem markDisk_pre {x : Disk} {k : Int} (h0 : 0 ≤ k) (h1 : k + cntT_Disk x ≤ 134217728) : laws_markDisk.pre x k = true := by simp [laws_markDisk.pre, h0, h1]
noncomputable def laws_heldDisk (x : Disk) (k : Int) : Int := heldN mkT_Disk cntT_Disk x k
namespace laws_heldDisk
def pre (x : Disk) (k : Int) : Bool := decide (0 ≤ k) && decide (k + cntT_Disk x ≤ 134217728)
abbrev wf (x0 : Disk) (x1 : Int) : Prop := wfA [(.val zk33 .f), (.val (.int .i64) .f)] (x0, (x1, ()))
noncomputable def raw (x0 : Disk) (x1 : Int) : Option zt28 :=
 if (laws_heldByteS.pre x0.1 x1) = true then
 letB (laws_heldByteS x0.1 x1) fun v1 =>
 if (decide (v1 < (0 : Int))) = true then
 some ((), ((-1 : Int), ()))
 else
 some ((), (v1, ()))
 else
 none
theorem eq (x0 : Disk) (x1 : Int) (_ : wf x0 x1) (hp : pre x0 x1 = true) : raw x0 x1 = some ((), (laws_heldDisk x0 x1, ())) := by
 simp only [pre, Bool.and_eq_true, decide_eq_true_eq] at hp
 simp only [cntT_Disk] at hp
 have n0 := cntL_nn mk_Byte_ok x0.1
 have q0 : laws_heldByteS.pre x0.1 (x1) = true := heldByteS_pre (by omega) (by omega)
 unfold raw laws_heldDisk
 simp only [letB, if_true, q0]
 by_cases c0 : x0.1 = mkL mk_Byte cnt_Byte x0.1 (x1)
 case neg => rw [show laws_heldByteS x0.1 (x1) = -1 from heldByteS_neg c0, if_pos (by decide), heldN_neg (fun h => c0 (congrArg (fun z : Disk => z.1) h))]
 rw [show laws_heldByteS x0.1 (x1) = x1 + cntL cnt_Byte x0.1 from heldByteS_pos c0, if_neg (by rw [decide_eq_true_eq]; omega)]
 rw [heldN_pos (m := mkT_Disk) (g := cntT_Disk) (Prod.ext c0 (Prod.ext rfl rfl)), show x1 + cntL cnt_Byte x0.1 = x1 + cntT_Disk x0 by simp only [cntT_Disk]]
end laws_heldDisk
theorem heldDisk_pos {x : Disk} {k : Int} (h : x = mkT_Disk x k) : laws_heldDisk x k = k + cntT_Disk x := heldN_pos h
theorem heldDisk_neg {x : Disk} {k : Int} (h : ¬ x = mkT_Disk x k) : laws_heldDisk x k = -1 := heldN_neg h
theorem heldDisk_pre {x : Disk} {k : Int} (h0 : 0 ≤ k) (h1 : k + cntT_Disk x ≤ 134217728) : laws_heldDisk.pre x k = true := by simp [laws_heldDisk.pre, h0, h1]
noncomputable def laws_eqRpc (a b : Rpc) : Bool := same a b
namespace laws_eqRpc
abbrev wf (x0 : zt4) (x1 : zt4) : Prop := wfA [(.val zk8 .f), (.val zk8 .f)] (x0, (x1, ()))
noncomputable def raw (x0 : zt4) (x1 : zt4) : Option zt17 :=
 if (!(decide (x0.1 = x1.1))) = true then
 some ((), (false, ()))
 else
 if (!(decide (x0.2.1 = x1.2.1))) = true then
 some ((), (false, ()))
 else
 if (!(decide (x0.2.2.1 = x1.2.2.1))) = true then
 some ((), (false, ()))
 else
 if (!(decide (x0.2.2.2.1 = x1.2.2.2.1))) = true then
 some ((), (false, ()))
 else
 if (!(decide (x0.2.2.2.2.1 = x1.2.2.2.2.1))) = true then
 some ((), (false, ()))
 else
 if (!(decide (x0.2.2.2.2.2.1 = x1.2.2.2.2.2.1))) = true then
 some ((), (false, ()))
 else
 if (!(decide (x0.2.2.2.2.2.2.1 = x1.2.2.2.2.2.2.1))) = true then
 some ((), (false, ()))
 else
 letB (laws_eqEntryS x0.2.2.2.2.2.2.2.1 x1.2.2.2.2.2.2.2.1) fun v1 =>
 if (!v1) = true then
 some ((), (false, ()))
 else
 if (!(x0.2.2.2.2.2.2.2.2.1 == x1.2.2.2.2.2.2.2.2.1)) = true then
 some ((), (false, ()))
 else
 if (!(x0.2.2.2.2.2.2.2.2.2.1 == x1.2.2.2.2.2.2.2.2.2.1)) = true then
 some ((), (false, ()))
 else
 some ((), (true, ()))
theorem eq (x0 x1 : Rpc) (_ : wf x0 x1) : raw x0 x1 = some ((), (laws_eqRpc x0 x1, ())) := by
 unfold raw laws_eqRpc
 try simp only [letB]
 by_cases c0 : x0.1 = x1.1
 case neg => rw [if_pos (by simp [c0]), same_false.2 (fun h => c0 (congrArg (fun z : Rpc => z.1) h))]
 rw [if_neg (by simp [c0])]
 by_cases c1 : x0.2.1 = x1.2.1
 case neg => rw [if_pos (by simp [c1]), same_false.2 (fun h => c1 (congrArg (fun z : Rpc => z.2.1) h))]
 rw [if_neg (by simp [c1])]
 by_cases c2 : x0.2.2.1 = x1.2.2.1
 case neg => rw [if_pos (by simp [c2]), same_false.2 (fun h => c2 (congrArg (fun z : Rpc => z.2.2.1) h))]
 rw [if_neg (by simp [c2])]
 by_cases c3 : x0.2.2.2.1 = x1.2.2.2.1
 case neg => rw [if_pos (by simp [c3]), same_false.2 (fun h => c3 (congrArg (fun z : Rpc => z.2.2.2.1) h))]
 rw [if_neg (by simp [c3])]
 by_cases c4 : x0.2.2.2.2.1 = x1.2.2.2.2.1
 case neg => rw [if_pos (by simp [c4]), same_false.2 (fun h => c4 (congrArg (fun z : Rpc => z.2.2.2.2.1) h))]
 rw [if_neg (by simp [c4])]
 by_cases c5 : x0.2.2.2.2.2.1 = x1.2.2.2.2.2.1
 case neg => rw [if_pos (by simp [c5]), same_false.2 (fun h => c5 (congrArg (fun z : Rpc => z.2.2.2.2.2.1) h))]
 rw [if_neg (by simp [c5])]
 by_cases c6 : x0.2.2.2.2.2.2.1 = x1.2.2.2.2.2.2.1
 case neg => rw [if_pos (by simp [c6]), same_false.2 (fun h => c6 (congrArg (fun z : Rpc => z.2.2.2.2.2.2.1) h))]
 rw [if_neg (by simp [c6])]
 by_cases c7 : x0.2.2.2.2.2.2.2.1 = x1.2.2.2.2.2.2.2.1
 case neg => rw [if_pos (by rw [laws_eqEntryS, same_false.2 c7]; rfl), same_false.2 (fun h => c7 (congrArg (fun z : Rpc => z.2.2.2.2.2.2.2.1) h))]
 rw [if_neg (by rw [laws_eqEntryS, same_true.2 c7]; simp)]
 by_cases c8 : x0.2.2.2.2.2.2.2.2.1 = x1.2.2.2.2.2.2.2.2.1
 case neg => rw [if_pos (by simp [c8]), same_false.2 (fun h => c8 (congrArg (fun z : Rpc => z.2.2.2.2.2.2.2.2.1) h))]
 rw [if_neg (by simp [c8])]
 by_cases c9 : x0.2.2.2.2.2.2.2.2.2.1 = x1.2.2.2.2.2.2.2.2.2.1
 case neg => rw [if_pos (by simp [c9]), same_false.2 (fun h => c9 (congrArg (fun z : Rpc => z.2.2.2.2.2.2.2.2.2.1) h))]
 rw [if_neg (by simp [c9])]
 rw [same_true.2 (Prod.ext c0 (Prod.ext c1 (Prod.ext c2 (Prod.ext c3 (Prod.ext c4 (Prod.ext c5 (Prod.ext c6 (Prod.ext c7 (Prod.ext c8 (Prod.ext c9 rfl))))))))))]
end laws_eqRpc
noncomputable def laws_eqRpcS (a b : List Rpc) : Bool := same a b
namespace laws_eqRpcS
def pre4 := eqPre (α := Rpc)
noncomputable def fn4 := eqFn (α := Rpc)
def mu4 := eqMu (α := Rpc)
noncomputable def raw4 (x1 : (List zt4)) (x2 : (List zt4)) (x3 : Int) : Option (((List zt4) × ((List zt4) × (Int × Unit))) ⊕ ((Bool × Unit) ⊕ Unit)) :=
 if (decide (x3 < ((List.length x1 : Nat) : Int))) = true then
 if (decide ((0 : Int) ≤ x3)) = true then
 if (decide (x3 < ((List.length x1 : Nat) : Int))) = true then
 if (decide ((0 : Int) ≤ x3)) = true then
 if (decide (x3 < ((List.length x2 : Nat) : Int))) = true then
 letB (laws_eqRpc (List.getD x1 (Int.toNat x3) zd5) (List.getD x2 (Int.toNat x3) zd5)) fun v1 =>
 if (!v1) = true then
 some (.inr (.inl (false, ())))
 else
 some (.inl (x1, (x2, ((IntKind.wrap .i64 (x3 + (1 : Int))), ()))))
 else
 none
 else
 none
 else
 none
 else
 none
 else
 some (.inr (.inr ()))
abbrev wf (x0 : (List zt4)) (x1 : (List zt4)) : Prop := wfA [(.val (.sl 0 zk8) .f), (.val (.sl 0 zk8) .f)] (x0, (x1, ()))
noncomputable def raw (x0 : (List zt4)) (x1 : (List zt4)) : Option zt17 :=
 if (!(decide (((List.length x0 : Nat) : Int) = ((List.length x1 : Nat) : Int)))) = true then
  some ((), (false, ()))
 else
  if (laws_eqRpcS.pre4 (x0, (x1, ((0 : Int), ())))) = true then
   letB (laws_eqRpcS.fn4 (x0, (x1, ((0 : Int), ())))) fun v1 =>
   match v1 with
   | .inl y =>
    some ((), y)
   | .inr y =>
    some ((), (true, ()))
  else
   none
theorem ok4 (x1 x2 : List Rpc) (x3 : Int) (hp : pre4 (x1, (x2, (x3, ()))) = true) : Rounds pre4 mu4 fn4 (x1, (x2, (x3, ()))) (raw4 x1 x2 x3) := by
 unfold raw4
 by_cases hlt : x3 < (x1.length : Int)
 · obtain ⟨h1, h2, h3, h4⟩ := eq_next hp hlt zd5
   simp only [letB, hlt, h1, h2, decide_true, if_true]
   by_cases h : x1.getD x3.toNat zd5 = x2.getD x3.toNat zd5
   · rw [if_neg (by rw [laws_eqRpc, same_true.2 h]; simp)]; exact h3 h
   · rw [if_pos (by rw [laws_eqRpc, same_false.2 h]; rfl)]; exact h4 h
 · simp only [hlt, decide_false, Bool.false_eq_true, if_false]
   exact eq_end hp hlt
theorem eq (x0 x1 : List Rpc) (hw : wf x0 x1) : raw x0 x1 = some ((), (laws_eqRpcS x0 x1, ())) := by
 have h1 : x0.length ≤ maxLen := hw.1.1
 unfold raw laws_eqRpcS
 by_cases hl : (x0.length : Int) = (x1.length : Int)
 · rw [if_neg (by simp [hl]), if_pos (show pre4 _ = true from eq_start h1 hl)]
   unfold fn4
   by_cases he : x0 = x1
   · rw [eqFn_eq he, same_true.2 he]; rfl
   · rw [eqFn_ne he, same_false.2 he]; rfl
 · have : ¬ x0 = x1 := fun h => hl (by rw [h])
   rw [if_pos (by simp [hl]), same_false.2 this]
end laws_eqRpcS
def mk_Rpc (x : Rpc) (k : Int) : Rpc := (k, (k + 1, (k + 1 + 1, (k + 1 + 1 + 1, (k + 1 + 1 + 1 + 1, (k + 1 + 1 + 1 + 1 + 1, (k + 1 + 1 + 1 + 1 + 1 + 1, (mkL mk_Entry cnt_Entry x.2.2.2.2.2.2.2.1 (k + 1 + 1 + 1 + 1 + 1 + 1 + 1), (decide (Int.tmod (k + 1 + 1 + 1 + 1 + 1 + 1 + 1 + cntL cnt_Entry x.2.2.2.2.2.2.2.1) 3 = 0), (laws_markText (k + 1 + 1 + 1 + 1 + 1 + 1 + 1 + cntL cnt_Entry x.2.2.2.2.2.2.2.1 + 1), ()))))))))))
def cnt_Rpc (x : Rpc) : Int := 9 + cntL cnt_Entry x.2.2.2.2.2.2.2.1
theorem mk_Rpc_ok : MkOk mk_Rpc cnt_Rpc := by
 refine ⟨fun x => ?_, fun x k => ?_, fun x k => ?_⟩
 · have n7 := cntL_nn mk_Entry_ok x.2.2.2.2.2.2.2.1
   simp only [cnt_Rpc]; omega
 · simp only [cnt_Rpc, mk_Rpc, cntL_mkL mk_Entry_ok]
 · simp only [mk_Rpc, cntL_mkL mk_Entry_ok, mkL_mkL mk_Entry_ok]
def laws_markRpcS (xs : List Rpc) (k : Int) : List Rpc × Int := (mkL mk_Rpc cnt_Rpc xs k, k + cntL cnt_Rpc xs)
end Go.Aw.Pl
