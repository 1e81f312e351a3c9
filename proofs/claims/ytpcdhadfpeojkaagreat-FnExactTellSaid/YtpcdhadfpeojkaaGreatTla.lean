import Derived.Test.YtpcdhadfpeojkaaGreatAxM
namespace Go.Aw.Pl
open Go Go.Aw
set_option linter.unusedVariables false
set_option linter.unusedSimpArgs false
set_option maxHeartbeats 1000000
abbrev Mark := (Int × (Int × Unit))
abbrev Disk := ((List Int) × (Int × Unit))
abbrev Item := (Int × ((List UInt8) × ((List UInt8) × Mark)))
abbrev Row := (Int × (Int × ((List Item) × Unit)))
abbrev Maker := (Int × (Int × (Int × (Int × ((List Mark) × Unit)))))
abbrev Answer := (Int × (Int × ((List UInt8) × ((List UInt8) × Unit))))
abbrev Cmd := (Int × (Int × (Int × (Int × Answer))))
abbrev Entry := (Int × (Cmd × Unit))
abbrev Log := (Int × (Int × ((List Entry) × Unit)))
abbrev Group := (Int × ((List Int) × ((List Int) × ((List Int) × Unit))))
abbrev Keep := ((List Row) × ((List Maker) × ((List Group) × (Int × ((List Int) × ((List Answer) × Unit))))))
abbrev Hard := (Int × (Int × (Log × (Keep × Unit))))
abbrev Rpc := (Int × (Int × (Int × (Int × (Int × (Int × (Int × ((List Entry) × (Bool × ((List UInt8) × Unit))))))))))
abbrev Peer := (Int × (Hard × (Int × ((List Bool) × ((List Int) × ((List Int) × (Int × (Keep × (Disk × ((List Rpc) × Unit))))))))))
abbrev zt3 : Type := (Int × (Int × (Int × (Int × (Int × (Int × (Int × ((List Entry) × (Bool × ((List UInt8) × Unit))))))))))
abbrev zd5 := ((0 : Int), ((0 : Int), ((0 : Int), ((0 : Int), ((0 : Int), ((0 : Int), ((0 : Int), (([] : List Entry), (false, (([] : List UInt8), ()))))))))))
abbrev zt7 : Type := ((List Row) × ((List Maker) × ((List Group) × (Int × ((List Int) × ((List Answer) × Unit))))))
abbrev zd8 := ((0 : Int), ((0 : Int), (([] : List UInt8), (([] : List UInt8), ()))))
abbrev zd9 := ((0 : Int), (([] : List Int), (([] : List Int), (([] : List Int), ()))))
abbrev zd11 := ((0 : Int), ((0 : Int), ((0 : Int), ((0 : Int), (([] : List Mark), ())))))
abbrev zt13 : Type := (Int × (Unit × ((List Row) × ((List Maker) × ((List Group) × ((List Int) × ((List Answer) × (Int × (Unit × ((List Row) × ((List Maker) × ((List Group) × ((List Int) × ((List Answer) × Unit))))))))))))))
abbrev zd14 := ((0 : Int), (((0 : Int), ((0 : Int), ((0 : Int), ((0 : Int), zd8)))), ()))
abbrev zd17 := ((0 : Int), ((0 : Int), (([] : List Item), ())))
abbrev zt18 : Type := ((List Maker) × ((Int × ((List Int) × ((List Answer) × Unit))) × ((List Row) × ((List Group) × (Int × (Unit × ((List Row) × ((List Maker) × ((List Group) × ((List Int) × ((List Answer) × Unit)))))))))))
abbrev zk19 : Ty := (.pair (.int .i64) (.pair (.sl 0 (.int .i64)) (.pair (.sl 0 (.int .i64)) (.pair (.sl 0 (.int .i64)) .unit))))
abbrev zk21 : Ty := (.pair (.int .i64) (.pair (.int .i64) (.pair .str (.pair .str .unit))))
abbrev zt22 : Type := (Unit × (Int × Unit))
abbrev zt23 : Type := (Int × (Int × (Log × (zt7 × Unit))))
abbrev zt25 : Type := (Unit × (Bool × Unit))
abbrev zd27 := ((0 : Int), ((0 : Int), ()))
abbrev zd12 := ((0 : Int), (([] : List UInt8), (([] : List UInt8), zd27)))
abbrev zk28 : Ty := (.pair (.int .i64) .unit)
abbrev zk15 : Ty := (.pair (.int .i64) (.pair .str (.pair .str (.pair (.int .i64) zk28))))
abbrev zk16 : Ty := (.pair (.int .i64) (.pair (.int .i64) (.pair (.int .i64) (.pair (.int .i64) (.pair (.sl 0 (.pair (.int .i64) zk28)) .unit)))))
abbrev zk24 : Ty := (.pair (.int .i64) (.pair (.int .i64) (.pair (.sl 0 zk15) .unit)))
abbrev zk4 : Ty := (.pair (.sl 0 zk24) (.pair (.sl 0 zk16) (.pair (.sl 0 zk19) (.pair (.int .i64) (.pair (.sl 0 (.int .i64)) (.pair (.sl 0 zk21) .unit))))))
abbrev zt29 : Type := ((List zt3) × Unit)
abbrev zt2 : Type := (Int × (zt23 × (Int × ((List Bool) × ((List Int) × ((List Int) × (Int × (zt7 × (Disk × zt29)))))))))
abbrev zk30 : Ty := (.pair (.int .i64) (.pair (.int .i64) (.pair (.int .i64) (.pair (.int .i64) zk21))))
abbrev zk6 : Ty := (.pair (.int .i64) (.pair zk30 .unit))
abbrev zk10 : Ty := (.pair (.int .i64) (.pair (.int .i64) (.pair (.int .i64) (.pair (.int .i64) (.pair (.int .i64) (.pair (.int .i64) (.pair (.int .i64) (.pair (.sl 0 zk6) (.pair .bool (.pair .str .unit))))))))))
abbrev zk20 : Ty := (.pair (.int .i64) (.pair (.int .i64) (.pair (.sl 0 zk6) .unit)))
abbrev zk26 : Ty := (.pair (.int .i64) (.pair (.int .i64) (.pair zk20 (.pair zk4 .unit))))
abbrev zt31 : Type := ((List Int) × Unit)
abbrev zk32 : Ty := (.pair (.sl 0 (.int .u8)) zk28)
abbrev zk1 : Ty := (.pair (.int .i64) (.pair zk26 (.pair (.int .i64) (.pair (.sl 0 .bool) (.pair (.sl 0 (.int .i64)) (.pair (.sl 0 (.int .i64)) (.pair (.int .i64) (.pair zk4 (.pair zk32 (.pair (.sl 0 zk10) .unit))))))))))
abbrev zt33 : Type := ((List Maker) × Unit)
theorem w64 {n : Int} (h1 : -9223372036854775808 ≤ n) (h2 : n ≤ 9223372036854775807) : IntKind.wrap .i64 n = n := by
  simp [IntKind.wrap, IntKind.signed, IntKind.bits]; omega
theorem w8 {n : Int} (h1 : 0 ≤ n) (h2 : n ≤ 255) : IntKind.wrap .u8 n = n := by
  simp [IntKind.wrap, IntKind.signed, IntKind.bits]; omega
theorem maxLen_eq : maxLen = 9223372036854775807 := rfl
def small {α : Type} (xs : List α) : Bool := decide (xs.length ≤ 16777216)
theorem small_iff {α : Type} {xs : List α} : small xs = true ↔ xs.length ≤ 16777216 := by simp [small]
theorem getD_get {α : Type} {xs : List α} {i : Nat} {d : α} (h : i < xs.length) : xs.getD i d = xs[i] := by
  rw [List.getD_eq_getElem?_getD, List.getElem?_eq_getElem h]; rfl
def letB {α β : Type} (a : α) (f : α → β) : β := f a
open Classical in
noncomputable def same {α : Type} (a b : α) : Bool := decide (a = b)
theorem same_true {α : Type} {a b : α} : same a b = true ↔ a = b := by simp [same]
theorem same_false {α : Type} {a b : α} : same a b = false ↔ ¬ a = b := by simp [same]
theorem same_self {α : Type} (a : α) : same a a = true := same_true.2 rfl
theorem modify_const {α : Type} (l : List α) (i : Nat) (v : α) : l.modify i (fun _ => v) = l.set i v := by
  apply List.ext_getElem?
  intro j
  rw [List.getElem?_modify, List.getElem?_set]
  by_cases h : i = j
  · subst h
    rcases Nat.lt_or_ge i l.length with hl | hl
    · simp [hl]
    · simp [List.getElem?_eq_none hl, Nat.not_lt.2 hl]
  · simp [h]
section
variable {α : Type}
abbrev ToS (α : Type) := List α × (Int × (List α × Unit))
def toPre : ToS α → Prop := fun s => s.1.length ≤ maxLen ∧ 0 ≤ s.2.1 ∧ s.2.1.toNat ≤ s.1.length ∧ s.2.2.1.length = s.1.length ∧ s.2.2.1.take s.2.1.toNat = s.1.take s.2.1.toNat
open Classical in
noncomputable def toPreB (s : ToS α) : Bool := decide (toPre s)
def toFn : ToS α → List α × Unit := fun s => (s.1, ())
def toMu : ToS α → Nat := fun s => s.1.length - s.2.1.toNat
theorem toPreB_iff {s : ToS α} : toPreB s = true ↔ toPre s := by simp [toPreB]
theorem to_next {x1 : List α} {x2 : Int} {x3 : List α} (hp : toPreB (x1, (x2, (x3, ()))) = true) (hlt : x2 < (x1.length : Int)) (d : α) :
    x2 < (x3.length : Int) ∧ 0 ≤ x2 ∧ Rounds toPreB toMu toFn (x1, (x2, (x3, ()))) (some (.inl (x1, (IntKind.wrap .i64 (x2 + 1), (x3.modify x2.toNat (fun _ => x1.getD x2.toNat d), ()))))) := by
  rw [toPreB_iff] at hp
  obtain ⟨h1, h2, h3, h4, h5⟩ := hp
  simp only [] at h1 h2 h3 h4 h5
  have hM := maxLen_eq
  have hn : x2.toNat < x1.length := by omega
  refine ⟨by omega, h2, ?_⟩
  simp only [Rounds, w64 (n := x2 + 1) (by omega) (by omega), toPreB_iff]
  refine ⟨⟨h1, by show 0 ≤ x2 + 1; omega, by show (x2 + 1).toNat ≤ x1.length; omega, by show (List.modify _ _ _).length = _; rw [List.length_modify]; exact h4, ?_⟩, by simp only [toMu]; omega, rfl⟩
  show List.take (x2 + 1).toNat (x3.modify x2.toNat (fun _ => x1.getD x2.toNat d)) = List.take (x2 + 1).toNat x1
  rw [modify_const, show (x2 + 1).toNat = x2.toNat + 1 by omega, List.take_add_one, List.take_add_one, List.take_set_of_le (by omega), h5]
  congr 1
  rw [List.getElem?_set_self (by omega), getD_get hn, List.getElem?_eq_getElem hn]
theorem to_end {x1 : List α} {x2 : Int} {x3 : List α} (hp : toPreB (x1, (x2, (x3, ()))) = true) (hlt : ¬ x2 < (x1.length : Int)) :
    Rounds toPreB toMu toFn (x1, (x2, (x3, ()))) (some (.inr (x3, ()))) := by
  rw [toPreB_iff] at hp
  obtain ⟨h1, h2, h3, h4, h5⟩ := hp
  simp only [] at h1 h2 h3 h4 h5
  have : x2.toNat = x1.length := by omega
  rw [this, List.take_length, ← h4, List.take_length] at h5
  simp only [Rounds, toFn, h5]
theorem to_start {x : List α} (h : x.length ≤ maxLen) (d : α) : toPreB (x, ((0 : Int), (List.replicate (Int.toNat ((x.length : Nat) : Int)) d, ()))) = true := by
  rw [toPreB_iff]
  exact ⟨h, by simp, by simp, by simp, by simp⟩
abbrev EqS (α : Type) := List α × (List α × (Int × Unit))
def eqPre : EqS α → Bool := fun s => decide (s.1.length ≤ maxLen) && decide (0 ≤ s.2.2.1) && decide (s.2.2.1.toNat ≤ s.1.length) && decide (s.2.1.length = s.1.length)
open Classical in
noncomputable def eqFn : EqS α → (Bool × Unit) ⊕ Unit := fun s => if s.1.drop s.2.2.1.toNat = s.2.1.drop s.2.2.1.toNat then .inr () else .inl (false, ())
def eqMu : EqS α → Nat := fun s => s.1.length - s.2.2.1.toNat
theorem eq_next {x1 x2 : List α} {x3 : Int} (hp : eqPre (x1, (x2, (x3, ()))) = true) (hlt : x3 < (x1.length : Int)) (d : α) :
    0 ≤ x3 ∧ x3 < (x2.length : Int) ∧ (x1.getD x3.toNat d = x2.getD x3.toNat d → Rounds eqPre eqMu eqFn (x1, (x2, (x3, ()))) (some (.inl (x1, (x2, (IntKind.wrap .i64 (x3 + 1), ())))))) ∧
      (¬ x1.getD x3.toNat d = x2.getD x3.toNat d → Rounds eqPre eqMu eqFn (x1, (x2, (x3, ()))) (some (.inr (.inl (false, ()))))) := by
  simp only [eqPre, Bool.and_eq_true, decide_eq_true_eq] at hp
  obtain ⟨⟨⟨h1, h2⟩, h3⟩, h4⟩ := hp
  have hM := maxLen_eq
  have hn : x3.toNat < x1.length := by omega
  have hn2 : x3.toNat < x2.length := by omega
  have e1 := List.drop_eq_getElem_cons hn
  have e2 := List.drop_eq_getElem_cons hn2
  rw [getD_get hn, getD_get hn2]
  refine ⟨h2, by omega, fun he => ?_, fun he => ?_⟩
  · simp only [Rounds, w64 (n := x3 + 1) (by omega) (by omega)]
    refine ⟨?_, by simp only [eqMu]; omega, ?_⟩
    · simp only [eqPre, Bool.and_eq_true, decide_eq_true_eq]
      exact ⟨⟨⟨h1, by omega⟩, by omega⟩, h4⟩
    · have hi : x1.drop (x3 + 1).toNat = x2.drop (x3 + 1).toNat ↔ x1.drop x3.toNat = x2.drop x3.toNat := by
        rw [show (x3 + 1).toNat = x3.toNat + 1 by omega, e1, e2, he, List.cons.injEq]; simp
      simp only [eqFn]
      by_cases hc : x1.drop x3.toNat = x2.drop x3.toNat
      · rw [if_pos hc, if_pos (hi.2 hc)]
      · rw [if_neg hc, if_neg (fun h => hc (hi.1 h))]
  · simp only [Rounds, eqFn]
    rw [if_neg]
    rw [e1, e2, List.cons.injEq]
    exact fun h => he h.1
theorem eq_end {x1 x2 : List α} {x3 : Int} (hp : eqPre (x1, (x2, (x3, ()))) = true) (hlt : ¬ x3 < (x1.length : Int)) :
    Rounds eqPre eqMu eqFn (x1, (x2, (x3, ()))) (some (.inr (.inr ()))) := by
  simp only [eqPre, Bool.and_eq_true, decide_eq_true_eq] at hp
  obtain ⟨⟨⟨h1, h2⟩, h3⟩, h4⟩ := hp
  simp only [Rounds, eqFn]
  rw [List.drop_eq_nil_of_le (by omega), List.drop_eq_nil_of_le (by omega), if_pos rfl]
theorem eq_start {x0 x1 : List α} (h : x0.length ≤ maxLen) (hl : (x0.length : Int) = (x1.length : Int)) : eqPre (x0, (x1, ((0 : Int), ()))) = true := by
  simp only [eqPre, Bool.and_eq_true, decide_eq_true_eq]
  exact ⟨⟨⟨h, by omega⟩, by omega⟩, by omega⟩
theorem eqFn_eq {x0 x1 : List α} (h : x0 = x1) : eqFn (x0, (x1, ((0 : Int), ()))) = .inr () := by
  unfold eqFn
  exact if_pos h
theorem eqFn_ne {x0 x1 : List α} (h : ¬ x0 = x1) : eqFn (x0, (x1, ((0 : Int), ()))) = .inl (false, ()) := by
  unfold eqFn
  exact if_neg h
abbrev SzS (α : Type) := List α × (Int × (Int × Unit))
def szMu : SzS α → Nat := fun s => s.1.length - s.2.2.1.toNat
end
def digs (k : Nat) (out : List UInt8) : List UInt8 :=
  if k = 0 then out else digs (k / 10) (List.append (strOf (IntKind.wrap .u8 (IntKind.wrap .i64 (48 + Int.tmod (k : Int) 10)) :: ([] : List Int))) out)
termination_by k
decreasing_by omega
theorem digs_len (k : Nat) (out : List UInt8) : (digs k out).length ≤ k + out.length := by
  induction k using Nat.strongRecOn generalizing out with
  | ind k ih =>
    rw [digs]
    split
    · omega
    · rename_i h
      refine Nat.le_trans (ih (k / 10) (by omega) _) ?_
      simp only [List.append_eq, List.length_append, strOf, List.map_cons, List.map_nil, List.length_cons, List.length_nil]
      omega
def laws_markText (k : Int) : List UInt8 := if k ≤ 0 then [109, 48] else 109 :: digs k.toNat []
namespace laws_markText
def pre (k : Int) : Bool := decide (k ≤ 2147483648)
abbrev S := Int × (List UInt8 × Unit)
def pre4 : S → Bool := fun s => decide (0 ≤ s.1) && decide (s.1.toNat + s.2.1.length ≤ 4294967295)
def fn4 : S → List UInt8 × Unit := fun s => (digs s.1.toNat s.2.1, ())
def mu4 : S → Nat := fun s => s.1.toNat
noncomputable def raw4 (x1 : Int) (x2 : (List UInt8)) : Option ((Int × ((List UInt8) × Unit)) ⊕ ((List UInt8) × Unit)) :=
 if (decide ((0 : Int) < x1)) = true then
  if (!(decide ((10 : Int) = (0 : Int)))) = true then
   if (decide (List.length (strOf ((IntKind.wrap .u8 (IntKind.wrap .i64 ((48 : Int) + (Int.tmod x1 (10 : Int))))) :: ([] : List Int))) + List.length x2 ≤ lim)) = true then
    if (!(decide ((10 : Int) = (0 : Int)))) = true then
     some (.inl ((IntKind.wrap .i64 (Int.tdiv x1 (10 : Int))), ((List.append (strOf ((IntKind.wrap .u8 (IntKind.wrap .i64 ((48 : Int) + (Int.tmod x1 (10 : Int))))) :: ([] : List Int))) x2), ())))
    else
     none
   else
    none
  else
   none
 else
  some (.inr (x2, ()))
abbrev wf (x0 : Int) : Prop := wfA [(.val (.int .i64) .f)] (x0, ())
noncomputable def raw (x0 : Int) : Option (Unit × ((List UInt8) × Unit)) :=
 if (decide (x0 ≤ (0 : Int))) = true then
  some ((), (((109 : UInt8) :: ((48 : UInt8) :: ([] : List UInt8))), ()))
 else
  if (laws_markText.pre4 (x0, (([] : List UInt8), ()))) = true then
   if (decide (List.length ((109 : UInt8) :: ([] : List UInt8)) + List.length (laws_markText.fn4 (x0, (([] : List UInt8), ()))).1 ≤ lim)) = true then
    some ((), ((List.append ((109 : UInt8) :: ([] : List UInt8)) (laws_markText.fn4 (x0, (([] : List UInt8), ()))).1), ()))
   else
    none
  else
   none
theorem ok4 (x1 : Int) (x2 : List UInt8) (hp : pre4 (x1, (x2, ())) = true) : Rounds pre4 mu4 fn4 (x1, (x2, ())) (raw4 x1 x2) := by
  simp only [pre4, Bool.and_eq_true, decide_eq_true_eq] at hp
  obtain ⟨h1, h2⟩ := hp
  unfold raw4
  by_cases h : 0 < x1
  · have hd : Int.tdiv x1 10 = x1 / 10 := Int.tdiv_eq_ediv_of_nonneg h1
    have hn : ((x1.toNat : Nat) : Int) = x1 := Int.toNat_of_nonneg h1
    rw [if_pos (by simp [h]), if_pos (by decide), if_pos (by simp only [strOf, List.map_cons, List.map_nil, List.length_cons, List.length_nil, decide_eq_true_eq, lim]; omega), if_pos (by decide), hd, w64 (by omega) (by omega)]
    simp only [Rounds]
    refine ⟨?_, by simp only [mu4]; omega, ?_⟩
    · simp only [pre4, Bool.and_eq_true, decide_eq_true_eq, List.append_eq, List.length_append, strOf, List.map_cons, List.map_nil, List.length_cons, List.length_nil]
      omega
    · simp only [fn4]
      conv => rhs; rw [digs, if_neg (by omega), hn]
      rw [show (x1 / 10).toNat = x1.toNat / 10 by omega]
  · rw [if_neg (by simp [h])]
    simp only [Rounds, fn4]
    rw [show x1.toNat = 0 by omega, digs, if_pos rfl]
theorem eq (x0 : Int) (_ : wf x0) (hp : pre x0 = true) : raw x0 = some ((), (laws_markText x0, ())) := by
  simp only [pre, decide_eq_true_eq] at hp
  unfold raw laws_markText
  by_cases h : x0 ≤ 0
  · simp [h]
  · have hl := digs_len x0.toNat []
    simp only [List.length_nil, Nat.add_zero] at hl
    have hl' : (fn4 (x0, (([] : List UInt8), ()))).1.length ≤ x0.toNat := hl
    rw [if_neg (by simp [h]), if_pos (show pre4 _ = true by simp only [pre4, Bool.and_eq_true, decide_eq_true_eq, List.length_nil]; omega), if_pos (by rw [decide_eq_true_eq]; simp only [List.length_cons, List.length_nil, lim]; omega), if_neg h]
    rfl
end laws_markText
def mE (k : Int) : Entry := (k, ((k + 1, (k + 1 + 1, (k + 1 + 1 + 1, (k + 1 + 1 + 1 + 1, (k + 1 + 1 + 1 + 1 + 1, (k + 1 + 1 + 1 + 1 + 1 + 1, (laws_markText (k + 1 + 1 + 1 + 1 + 1 + 1 + 1), (laws_markText (k + 1 + 1 + 1 + 1 + 1 + 1 + 1 + 1), ())))))))), ()))
def markEL : Nat → Int → List Entry
  | 0, _ => []
  | n + 1, k => mE k :: markEL n (k + 1 + 1 + 1 + 1 + 1 + 1 + 1 + 1 + 1)
def laws_markEntryS (xs : List Entry) (k : Int) : List Entry × Int := (markEL xs.length k, k + 9 * xs.length)
namespace laws_markEntryS
def pre (xs : List Entry) (k : Int) : Bool := small xs && (decide (0 ≤ k) && decide (k ≤ 1073741824))
abbrev S := Int × (Int × (List Entry × Unit))
def pre2 : S → Bool := fun s => decide (s.2.2.1.length ≤ 16777216) && (decide (0 ≤ s.2.1) && (decide (s.2.1.toNat ≤ s.2.2.1.length) && (decide (0 ≤ s.1) && decide (s.1 + 9 * (s.2.2.1.length - s.2.1) ≤ 2147483600))))
def fn2 : S → Int × (List Entry × Unit) := fun s => (s.1 + 9 * (s.2.2.1.length - s.2.1), (s.2.2.1.take s.2.1.toNat ++ markEL (s.2.2.1.length - s.2.1.toNat) s.1, ()))
def mu2 : S → Nat := fun s => s.2.2.1.length - s.2.1.toNat
noncomputable def raw2 (x1 : Int) (x2 : Int) (x3 : (List Entry)) : Option (Log ⊕ (Int × ((List Entry) × Unit))) :=
 if (decide (x2 < ((List.length x3 : Nat) : Int))) = true then
  if (decide ((0 : Int) ≤ x2)) = true then
   if (decide (x2 < ((List.length x3 : Nat) : Int))) = true then
    if (decide ((0 : Int) ≤ x2)) = true then
     if (decide (x2 < ((List.length (List.modify x3 (Int.toNat x2) (fun z => (x1, z.2))) : Nat) : Int))) = true then
      if (decide ((0 : Int) ≤ x2)) = true then
       if (decide (x2 < ((List.length (List.modify (List.modify x3 (Int.toNat x2) (fun z => (x1, z.2))) (Int.toNat x2) (fun z => (z.1, (((IntKind.wrap .i64 (x1 + (1 : Int))), z.2.1.2), z.2.2)))) : Nat) : Int))) = true then
        if (decide ((0 : Int) ≤ x2)) = true then
         if (decide (x2 < ((List.length (List.modify (List.modify (List.modify x3 (Int.toNat x2) (fun z => (x1, z.2))) (Int.toNat x2) (fun z => (z.1, (((IntKind.wrap .i64 (x1 + (1 : Int))), z.2.1.2), z.2.2)))) (Int.toNat x2) (fun z => (z.1, ((z.2.1.1, ((IntKind.wrap .i64 ((IntKind.wrap .i64 (x1 + (1 : Int))) + (1 : Int))), z.2.1.2.2)), z.2.2)))) : Nat) : Int))) = true then
          if (decide ((0 : Int) ≤ x2)) = true then
           if (decide (x2 < ((List.length (List.modify (List.modify (List.modify (List.modify x3 (Int.toNat x2) (fun z => (x1, z.2))) (Int.toNat x2) (fun z => (z.1, (((IntKind.wrap .i64 (x1 + (1 : Int))), z.2.1.2), z.2.2)))) (Int.toNat x2) (fun z => (z.1, ((z.2.1.1, ((IntKind.wrap .i64 ((IntKind.wrap .i64 (x1 + (1 : Int))) + (1 : Int))), z.2.1.2.2)), z.2.2)))) (Int.toNat x2) (fun z => (z.1, ((z.2.1.1, (z.2.1.2.1, ((IntKind.wrap .i64 ((IntKind.wrap .i64 ((IntKind.wrap .i64 (x1 + (1 : Int))) + (1 : Int))) + (1 : Int))), z.2.1.2.2.2))), z.2.2)))) : Nat) : Int))) = true then
            if (decide ((0 : Int) ≤ x2)) = true then
             if (decide (x2 < ((List.length (List.modify (List.modify (List.modify (List.modify (List.modify x3 (Int.toNat x2) (fun z => (x1, z.2))) (Int.toNat x2) (fun z => (z.1, (((IntKind.wrap .i64 (x1 + (1 : Int))), z.2.1.2), z.2.2)))) (Int.toNat x2) (fun z => (z.1, ((z.2.1.1, ((IntKind.wrap .i64 ((IntKind.wrap .i64 (x1 + (1 : Int))) + (1 : Int))), z.2.1.2.2)), z.2.2)))) (Int.toNat x2) (fun z => (z.1, ((z.2.1.1, (z.2.1.2.1, ((IntKind.wrap .i64 ((IntKind.wrap .i64 ((IntKind.wrap .i64 (x1 + (1 : Int))) + (1 : Int))) + (1 : Int))), z.2.1.2.2.2))), z.2.2)))) (Int.toNat x2) (fun z => (z.1, ((z.2.1.1, (z.2.1.2.1, (z.2.1.2.2.1, ((IntKind.wrap .i64 ((IntKind.wrap .i64 ((IntKind.wrap .i64 ((IntKind.wrap .i64 (x1 + (1 : Int))) + (1 : Int))) + (1 : Int))) + (1 : Int))), z.2.1.2.2.2.2)))), z.2.2)))) : Nat) : Int))) = true then
              if (decide ((0 : Int) ≤ x2)) = true then
               if (decide (x2 < ((List.length (List.modify (List.modify (List.modify (List.modify (List.modify (List.modify x3 (Int.toNat x2) (fun z => (x1, z.2))) (Int.toNat x2) (fun z => (z.1, (((IntKind.wrap .i64 (x1 + (1 : Int))), z.2.1.2), z.2.2)))) (Int.toNat x2) (fun z => (z.1, ((z.2.1.1, ((IntKind.wrap .i64 ((IntKind.wrap .i64 (x1 + (1 : Int))) + (1 : Int))), z.2.1.2.2)), z.2.2)))) (Int.toNat x2) (fun z => (z.1, ((z.2.1.1, (z.2.1.2.1, ((IntKind.wrap .i64 ((IntKind.wrap .i64 ((IntKind.wrap .i64 (x1 + (1 : Int))) + (1 : Int))) + (1 : Int))), z.2.1.2.2.2))), z.2.2)))) (Int.toNat x2) (fun z => (z.1, ((z.2.1.1, (z.2.1.2.1, (z.2.1.2.2.1, ((IntKind.wrap .i64 ((IntKind.wrap .i64 ((IntKind.wrap .i64 ((IntKind.wrap .i64 (x1 + (1 : Int))) + (1 : Int))) + (1 : Int))) + (1 : Int))), z.2.1.2.2.2.2)))), z.2.2)))) (Int.toNat x2) (fun z => (z.1, ((z.2.1.1, (z.2.1.2.1, (z.2.1.2.2.1, (z.2.1.2.2.2.1, ((IntKind.wrap .i64 ((IntKind.wrap .i64 ((IntKind.wrap .i64 ((IntKind.wrap .i64 ((IntKind.wrap .i64 (x1 + (1 : Int))) + (1 : Int))) + (1 : Int))) + (1 : Int))) + (1 : Int))), z.2.1.2.2.2.2.2))))), z.2.2)))) : Nat) : Int))) = true then
                if (laws_markText.pre (IntKind.wrap .i64 ((IntKind.wrap .i64 ((IntKind.wrap .i64 ((IntKind.wrap .i64 ((IntKind.wrap .i64 ((IntKind.wrap .i64 ((IntKind.wrap .i64 (x1 + (1 : Int))) + (1 : Int))) + (1 : Int))) + (1 : Int))) + (1 : Int))) + (1 : Int))) + (1 : Int)))) = true then
                 if (decide ((0 : Int) ≤ x2)) = true then
                  if (decide (x2 < ((List.length (List.modify (List.modify (List.modify (List.modify (List.modify (List.modify (List.modify x3 (Int.toNat x2) (fun z => (x1, z.2))) (Int.toNat x2) (fun z => (z.1, (((IntKind.wrap .i64 (x1 + (1 : Int))), z.2.1.2), z.2.2)))) (Int.toNat x2) (fun z => (z.1, ((z.2.1.1, ((IntKind.wrap .i64 ((IntKind.wrap .i64 (x1 + (1 : Int))) + (1 : Int))), z.2.1.2.2)), z.2.2)))) (Int.toNat x2) (fun z => (z.1, ((z.2.1.1, (z.2.1.2.1, ((IntKind.wrap .i64 ((IntKind.wrap .i64 ((IntKind.wrap .i64 (x1 + (1 : Int))) + (1 : Int))) + (1 : Int))), z.2.1.2.2.2))), z.2.2)))) (Int.toNat x2) (fun z => (z.1, ((z.2.1.1, (z.2.1.2.1, (z.2.1.2.2.1, ((IntKind.wrap .i64 ((IntKind.wrap .i64 ((IntKind.wrap .i64 ((IntKind.wrap .i64 (x1 + (1 : Int))) + (1 : Int))) + (1 : Int))) + (1 : Int))), z.2.1.2.2.2.2)))), z.2.2)))) (Int.toNat x2) (fun z => (z.1, ((z.2.1.1, (z.2.1.2.1, (z.2.1.2.2.1, (z.2.1.2.2.2.1, ((IntKind.wrap .i64 ((IntKind.wrap .i64 ((IntKind.wrap .i64 ((IntKind.wrap .i64 ((IntKind.wrap .i64 (x1 + (1 : Int))) + (1 : Int))) + (1 : Int))) + (1 : Int))) + (1 : Int))), z.2.1.2.2.2.2.2))))), z.2.2)))) (Int.toNat x2) (fun z => (z.1, ((z.2.1.1, (z.2.1.2.1, (z.2.1.2.2.1, (z.2.1.2.2.2.1, (z.2.1.2.2.2.2.1, ((IntKind.wrap .i64 ((IntKind.wrap .i64 ((IntKind.wrap .i64 ((IntKind.wrap .i64 ((IntKind.wrap .i64 ((IntKind.wrap .i64 (x1 + (1 : Int))) + (1 : Int))) + (1 : Int))) + (1 : Int))) + (1 : Int))) + (1 : Int))), z.2.1.2.2.2.2.2.2)))))), z.2.2)))) : Nat) : Int))) = true then
                   if (laws_markText.pre (IntKind.wrap .i64 ((IntKind.wrap .i64 ((IntKind.wrap .i64 ((IntKind.wrap .i64 ((IntKind.wrap .i64 ((IntKind.wrap .i64 ((IntKind.wrap .i64 ((IntKind.wrap .i64 (x1 + (1 : Int))) + (1 : Int))) + (1 : Int))) + (1 : Int))) + (1 : Int))) + (1 : Int))) + (1 : Int))) + (1 : Int)))) = true then
                    if (decide ((0 : Int) ≤ x2)) = true then
                     if (decide (x2 < ((List.length (List.modify (List.modify (List.modify (List.modify (List.modify (List.modify (List.modify (List.modify x3 (Int.toNat x2) (fun z => (x1, z.2))) (Int.toNat x2) (fun z => (z.1, (((IntKind.wrap .i64 (x1 + (1 : Int))), z.2.1.2), z.2.2)))) (Int.toNat x2) (fun z => (z.1, ((z.2.1.1, ((IntKind.wrap .i64 ((IntKind.wrap .i64 (x1 + (1 : Int))) + (1 : Int))), z.2.1.2.2)), z.2.2)))) (Int.toNat x2) (fun z => (z.1, ((z.2.1.1, (z.2.1.2.1, ((IntKind.wrap .i64 ((IntKind.wrap .i64 ((IntKind.wrap .i64 (x1 + (1 : Int))) + (1 : Int))) + (1 : Int))), z.2.1.2.2.2))), z.2.2)))) (Int.toNat x2) (fun z => (z.1, ((z.2.1.1, (z.2.1.2.1, (z.2.1.2.2.1, ((IntKind.wrap .i64 ((IntKind.wrap .i64 ((IntKind.wrap .i64 ((IntKind.wrap .i64 (x1 + (1 : Int))) + (1 : Int))) + (1 : Int))) + (1 : Int))), z.2.1.2.2.2.2)))), z.2.2)))) (Int.toNat x2) (fun z => (z.1, ((z.2.1.1, (z.2.1.2.1, (z.2.1.2.2.1, (z.2.1.2.2.2.1, ((IntKind.wrap .i64 ((IntKind.wrap .i64 ((IntKind.wrap .i64 ((IntKind.wrap .i64 ((IntKind.wrap .i64 (x1 + (1 : Int))) + (1 : Int))) + (1 : Int))) + (1 : Int))) + (1 : Int))), z.2.1.2.2.2.2.2))))), z.2.2)))) (Int.toNat x2) (fun z => (z.1, ((z.2.1.1, (z.2.1.2.1, (z.2.1.2.2.1, (z.2.1.2.2.2.1, (z.2.1.2.2.2.2.1, ((IntKind.wrap .i64 ((IntKind.wrap .i64 ((IntKind.wrap .i64 ((IntKind.wrap .i64 ((IntKind.wrap .i64 ((IntKind.wrap .i64 (x1 + (1 : Int))) + (1 : Int))) + (1 : Int))) + (1 : Int))) + (1 : Int))) + (1 : Int))), z.2.1.2.2.2.2.2.2)))))), z.2.2)))) (Int.toNat x2) (fun z => (z.1, ((z.2.1.1, (z.2.1.2.1, (z.2.1.2.2.1, (z.2.1.2.2.2.1, (z.2.1.2.2.2.2.1, (z.2.1.2.2.2.2.2.1, ((laws_markText (IntKind.wrap .i64 ((IntKind.wrap .i64 ((IntKind.wrap .i64 ((IntKind.wrap .i64 ((IntKind.wrap .i64 ((IntKind.wrap .i64 ((IntKind.wrap .i64 (x1 + (1 : Int))) + (1 : Int))) + (1 : Int))) + (1 : Int))) + (1 : Int))) + (1 : Int))) + (1 : Int)))), z.2.1.2.2.2.2.2.2.2))))))), z.2.2)))) : Nat) : Int))) = true then
                      some (.inl ((IntKind.wrap .i64 ((IntKind.wrap .i64 ((IntKind.wrap .i64 ((IntKind.wrap .i64 ((IntKind.wrap .i64 ((IntKind.wrap .i64 ((IntKind.wrap .i64 ((IntKind.wrap .i64 ((IntKind.wrap .i64 (x1 + (1 : Int))) + (1 : Int))) + (1 : Int))) + (1 : Int))) + (1 : Int))) + (1 : Int))) + (1 : Int))) + (1 : Int))) + (1 : Int))), ((IntKind.wrap .i64 (x2 + (1 : Int))), ((List.modify (List.modify (List.modify (List.modify (List.modify (List.modify (List.modify (List.modify (List.modify x3 (Int.toNat x2) (fun z => (x1, z.2))) (Int.toNat x2) (fun z => (z.1, (((IntKind.wrap .i64 (x1 + (1 : Int))), z.2.1.2), z.2.2)))) (Int.toNat x2) (fun z => (z.1, ((z.2.1.1, ((IntKind.wrap .i64 ((IntKind.wrap .i64 (x1 + (1 : Int))) + (1 : Int))), z.2.1.2.2)), z.2.2)))) (Int.toNat x2) (fun z => (z.1, ((z.2.1.1, (z.2.1.2.1, ((IntKind.wrap .i64 ((IntKind.wrap .i64 ((IntKind.wrap .i64 (x1 + (1 : Int))) + (1 : Int))) + (1 : Int))), z.2.1.2.2.2))), z.2.2)))) (Int.toNat x2) (fun z => (z.1, ((z.2.1.1, (z.2.1.2.1, (z.2.1.2.2.1, ((IntKind.wrap .i64 ((IntKind.wrap .i64 ((IntKind.wrap .i64 ((IntKind.wrap .i64 (x1 + (1 : Int))) + (1 : Int))) + (1 : Int))) + (1 : Int))), z.2.1.2.2.2.2)))), z.2.2)))) (Int.toNat x2) (fun z => (z.1, ((z.2.1.1, (z.2.1.2.1, (z.2.1.2.2.1, (z.2.1.2.2.2.1, ((IntKind.wrap .i64 ((IntKind.wrap .i64 ((IntKind.wrap .i64 ((IntKind.wrap .i64 ((IntKind.wrap .i64 (x1 + (1 : Int))) + (1 : Int))) + (1 : Int))) + (1 : Int))) + (1 : Int))), z.2.1.2.2.2.2.2))))), z.2.2)))) (Int.toNat x2) (fun z => (z.1, ((z.2.1.1, (z.2.1.2.1, (z.2.1.2.2.1, (z.2.1.2.2.2.1, (z.2.1.2.2.2.2.1, ((IntKind.wrap .i64 ((IntKind.wrap .i64 ((IntKind.wrap .i64 ((IntKind.wrap .i64 ((IntKind.wrap .i64 ((IntKind.wrap .i64 (x1 + (1 : Int))) + (1 : Int))) + (1 : Int))) + (1 : Int))) + (1 : Int))) + (1 : Int))), z.2.1.2.2.2.2.2.2)))))), z.2.2)))) (Int.toNat x2) (fun z => (z.1, ((z.2.1.1, (z.2.1.2.1, (z.2.1.2.2.1, (z.2.1.2.2.2.1, (z.2.1.2.2.2.2.1, (z.2.1.2.2.2.2.2.1, ((laws_markText (IntKind.wrap .i64 ((IntKind.wrap .i64 ((IntKind.wrap .i64 ((IntKind.wrap .i64 ((IntKind.wrap .i64 ((IntKind.wrap .i64 ((IntKind.wrap .i64 (x1 + (1 : Int))) + (1 : Int))) + (1 : Int))) + (1 : Int))) + (1 : Int))) + (1 : Int))) + (1 : Int)))), z.2.1.2.2.2.2.2.2.2))))))), z.2.2)))) (Int.toNat x2) (fun z => (z.1, ((z.2.1.1, (z.2.1.2.1, (z.2.1.2.2.1, (z.2.1.2.2.2.1, (z.2.1.2.2.2.2.1, (z.2.1.2.2.2.2.2.1, (z.2.1.2.2.2.2.2.2.1, ((laws_markText (IntKind.wrap .i64 ((IntKind.wrap .i64 ((IntKind.wrap .i64 ((IntKind.wrap .i64 ((IntKind.wrap .i64 ((IntKind.wrap .i64 ((IntKind.wrap .i64 ((IntKind.wrap .i64 (x1 + (1 : Int))) + (1 : Int))) + (1 : Int))) + (1 : Int))) + (1 : Int))) + (1 : Int))) + (1 : Int))) + (1 : Int)))), z.2.1.2.2.2.2.2.2.2.2)))))))), z.2.2)))), ()))))
                     else
                      none
                    else
                     none
                   else
                    none
                  else
                   none
                 else
                  none
                else
                 none
               else
                none
              else
               none
             else
              none
            else
             none
           else
            none
          else
           none
         else
          none
        else
         none
       else
        none
      else
       none
     else
      none
    else
     none
   else
    none
  else
   none
 else
  some (.inr (x1, (x3, ())))
abbrev wf (x0 : (List Entry)) (x1 : Int) : Prop := wfA [(.mut (.sl 0 zk6)), (.val (.int .i64) .f)] (x0, (x1, ()))
noncomputable def raw (x0 : (List Entry)) (x1 : Int) : Option (((List Entry) × Unit) × (Int × Unit)) :=
 if (laws_markEntryS.pre2 (x1, ((0 : Int), (x0, ())))) = true then
  some ((laws_markEntryS.fn2 (x1, ((0 : Int), (x0, ())))).2, ((laws_markEntryS.fn2 (x1, ((0 : Int), (x0, ())))).1, ()))
 else
  none
theorem ok2 (x1 x2 : Int) (x3 : List Entry) (hp : pre2 (x1, (x2, (x3, ()))) = true) : Rounds pre2 mu2 fn2 (x1, (x2, (x3, ()))) (raw2 x1 x2 x3) := by
  simp only [pre2, Bool.and_eq_true, decide_eq_true_eq] at hp
  obtain ⟨h1, h2, h3, h4, h5⟩ := hp
  unfold raw2
  by_cases hlt : x2 < (x3.length : Int)
  · have hn : x2.toNat < x3.length := by omega
    have w1 : IntKind.wrap .i64 (x1 + 1) = x1 + 1 := w64 (by omega) (by omega)
    have w2 : IntKind.wrap .i64 (x1 + 1 + 1) = x1 + 1 + 1 := w64 (by omega) (by omega)
    have w3 : IntKind.wrap .i64 (x1 + 1 + 1 + 1) = x1 + 1 + 1 + 1 := w64 (by omega) (by omega)
    have w4 : IntKind.wrap .i64 (x1 + 1 + 1 + 1 + 1) = x1 + 1 + 1 + 1 + 1 := w64 (by omega) (by omega)
    have w5 : IntKind.wrap .i64 (x1 + 1 + 1 + 1 + 1 + 1) = x1 + 1 + 1 + 1 + 1 + 1 := w64 (by omega) (by omega)
    have w6 : IntKind.wrap .i64 (x1 + 1 + 1 + 1 + 1 + 1 + 1) = x1 + 1 + 1 + 1 + 1 + 1 + 1 := w64 (by omega) (by omega)
    have w7 : IntKind.wrap .i64 (x1 + 1 + 1 + 1 + 1 + 1 + 1 + 1) = x1 + 1 + 1 + 1 + 1 + 1 + 1 + 1 := w64 (by omega) (by omega)
    have w8 : IntKind.wrap .i64 (x1 + 1 + 1 + 1 + 1 + 1 + 1 + 1 + 1) = x1 + 1 + 1 + 1 + 1 + 1 + 1 + 1 + 1 := w64 (by omega) (by omega)
    have w9 : IntKind.wrap .i64 (x1 + 1 + 1 + 1 + 1 + 1 + 1 + 1 + 1 + 1) = x1 + 1 + 1 + 1 + 1 + 1 + 1 + 1 + 1 + 1 := w64 (by omega) (by omega)
    have p7 : laws_markText.pre (x1 + 1 + 1 + 1 + 1 + 1 + 1 + 1) = true := by simp only [laws_markText.pre, decide_eq_true_eq]; omega
    have p8 : laws_markText.pre (x1 + 1 + 1 + 1 + 1 + 1 + 1 + 1 + 1) = true := by simp only [laws_markText.pre, decide_eq_true_eq]; omega
    simp only [List.length_modify, hlt, h2, decide_true, if_true, w1, w2, w3, w4, w5, w6, w7, w8, w9, p7, p8, w64 (n := x2 + 1) (by omega) (by omega)]
    simp only [List.modify_modify_eq]
    have hm := modify_const x3 x2.toNat (mE x1)
    refine (?_ : Rounds pre2 mu2 fn2 (x1, (x2, (x3, ()))) (some (.inl (x1 + 1 + 1 + 1 + 1 + 1 + 1 + 1 + 1 + 1, (x2 + 1, (x3.modify x2.toNat (fun _ => mE x1), ()))))))
    rw [hm]
    simp only [Rounds]
    refine ⟨?_, by simp only [mu2, List.length_set]; omega, ?_⟩
    · simp only [pre2, Bool.and_eq_true, decide_eq_true_eq, List.length_set]
      omega
    · simp only [fn2, List.length_set, show (x2 + 1).toNat = x2.toNat + 1 by omega]
      rw [show x3.length - x2.toNat = (x3.length - (x2.toNat + 1)) + 1 by omega]
      simp only [markEL]
      rw [List.take_add_one, List.take_set_of_le (by omega), List.getElem?_set_self (by omega)]
      refine Prod.ext (by show _ = _; omega) (Prod.ext ?_ rfl)
      simp
  · simp only [hlt, decide_false, Bool.false_eq_true, if_false, Rounds, fn2]
    rw [show x3.length - x2.toNat = 0 by omega, show x2.toNat = x3.length by omega]
    refine Prod.ext (by show _ = _; omega) (Prod.ext ?_ rfl)
    simp [markEL]
theorem eq (x0 : List Entry) (x1 : Int) (_ : wf x0 x1) (hp : pre x0 x1 = true) : raw x0 x1 = some (((laws_markEntryS x0 x1).1, ()), ((laws_markEntryS x0 x1).2, ())) := by
  simp only [pre, Bool.and_eq_true, decide_eq_true_eq, small_iff] at hp
  unfold raw laws_markEntryS
  rw [if_pos (show pre2 _ = true by simp only [pre2, Bool.and_eq_true, decide_eq_true_eq]; simp; omega)]
  simp [fn2]
end laws_markEntryS
def laws_markLog (x : Log) (k : Int) : Log × Int := ((x.1, (x.2.1, (markEL x.2.2.1.length k, ()))), k + 9 * x.2.2.1.length)
namespace laws_markLog
def pre (x : Log) (k : Int) : Bool := laws_markEntryS.pre x.2.2.1 k
abbrev wf (x0 : Log) (x1 : Int) : Prop := wfA [(.mut zk20), (.val (.int .i64) .f)] (x0, (x1, ()))
noncomputable def raw (x0 : Log) (x1 : Int) : Option ((Log × Unit) × (Int × Unit)) :=
 if (laws_markEntryS.pre x0.2.2.1 x1) = true then
  some (((x0.1, (x0.2.1, ((laws_markEntryS x0.2.2.1 x1).1, x0.2.2.2))), ()), ((laws_markEntryS x0.2.2.1 x1).2, ()))
 else
  none
theorem eq (x0 : Log) (x1 : Int) (_ : wf x0 x1) (hp : pre x0 x1 = true) : raw x0 x1 = some (((laws_markLog x0 x1).1, ()), ((laws_markLog x0 x1).2, ())) := by
  unfold raw
  rw [if_pos (show laws_markEntryS.pre _ _ = true from hp)]
  rfl
end laws_markLog
open Classical in
noncomputable def laws_heldEntryS (xs : List Entry) (k : Int) : Int := if xs = markEL xs.length k then k + 9 * xs.length else -1
namespace laws_heldEntryS
def pre (xs : List Entry) (k : Int) : Bool := laws_markEntryS.pre xs k
abbrev S := List Entry × (Int × (Int × Unit))
def pre2 : S → Bool := fun s => decide (s.1.length ≤ 16777216) && (decide (0 ≤ s.2.2.1) && (decide (s.2.2.1.toNat ≤ s.1.length) && (decide (0 ≤ s.2.1) && decide (s.2.1 + 9 * (s.1.length - s.2.2.1) ≤ 2147483600))))
open Classical in
noncomputable def fn2 : S → (Int × Unit) ⊕ (Int × Unit) := fun s => if s.1.drop s.2.2.1.toNat = markEL (s.1.length - s.2.2.1.toNat) s.2.1 then .inr (s.2.1 + 9 * (s.1.length - s.2.2.1), ()) else .inl (-1, ())
def mu2 : S → Nat := fun s => s.1.length - s.2.2.1.toNat
noncomputable def raw2 (x1 : (List Entry)) (x2 : Int) (x3 : Int) : Option (((List Entry) × Mark) ⊕ ((Int × Unit) ⊕ (Int × Unit))) :=
 if (decide (x3 < ((List.length x1 : Nat) : Int))) = true then
  if (decide ((0 : Int) ≤ x3)) = true then
   if (decide (x3 < ((List.length x1 : Nat) : Int))) = true then
    if (!(decide ((List.getD x1 (Int.toNat x3) zd14).1 = x2))) = true then
     some (.inr (.inl ((-1 : Int), ())))
    else
     if (decide ((0 : Int) ≤ x3)) = true then
      if (decide (x3 < ((List.length x1 : Nat) : Int))) = true then
       if (!(decide ((List.getD x1 (Int.toNat x3) zd14).2.1.1 = (IntKind.wrap .i64 (x2 + (1 : Int)))))) = true then
        some (.inr (.inl ((-1 : Int), ())))
       else
        if (decide ((0 : Int) ≤ x3)) = true then
         if (decide (x3 < ((List.length x1 : Nat) : Int))) = true then
          if (!(decide ((List.getD x1 (Int.toNat x3) zd14).2.1.2.1 = (IntKind.wrap .i64 ((IntKind.wrap .i64 (x2 + (1 : Int))) + (1 : Int)))))) = true then
           some (.inr (.inl ((-1 : Int), ())))
          else
           if (decide ((0 : Int) ≤ x3)) = true then
            if (decide (x3 < ((List.length x1 : Nat) : Int))) = true then
             if (!(decide ((List.getD x1 (Int.toNat x3) zd14).2.1.2.2.1 = (IntKind.wrap .i64 ((IntKind.wrap .i64 ((IntKind.wrap .i64 (x2 + (1 : Int))) + (1 : Int))) + (1 : Int)))))) = true then
              some (.inr (.inl ((-1 : Int), ())))
             else
              if (decide ((0 : Int) ≤ x3)) = true then
               if (decide (x3 < ((List.length x1 : Nat) : Int))) = true then
                if (!(decide ((List.getD x1 (Int.toNat x3) zd14).2.1.2.2.2.1 = (IntKind.wrap .i64 ((IntKind.wrap .i64 ((IntKind.wrap .i64 ((IntKind.wrap .i64 (x2 + (1 : Int))) + (1 : Int))) + (1 : Int))) + (1 : Int)))))) = true then
                 some (.inr (.inl ((-1 : Int), ())))
                else
                 if (decide ((0 : Int) ≤ x3)) = true then
                  if (decide (x3 < ((List.length x1 : Nat) : Int))) = true then
                   if (!(decide ((List.getD x1 (Int.toNat x3) zd14).2.1.2.2.2.2.1 = (IntKind.wrap .i64 ((IntKind.wrap .i64 ((IntKind.wrap .i64 ((IntKind.wrap .i64 ((IntKind.wrap .i64 (x2 + (1 : Int))) + (1 : Int))) + (1 : Int))) + (1 : Int))) + (1 : Int)))))) = true then
                    some (.inr (.inl ((-1 : Int), ())))
                   else
                    if (decide ((0 : Int) ≤ x3)) = true then
                     if (decide (x3 < ((List.length x1 : Nat) : Int))) = true then
                      if (!(decide ((List.getD x1 (Int.toNat x3) zd14).2.1.2.2.2.2.2.1 = (IntKind.wrap .i64 ((IntKind.wrap .i64 ((IntKind.wrap .i64 ((IntKind.wrap .i64 ((IntKind.wrap .i64 ((IntKind.wrap .i64 (x2 + (1 : Int))) + (1 : Int))) + (1 : Int))) + (1 : Int))) + (1 : Int))) + (1 : Int)))))) = true then
                       some (.inr (.inl ((-1 : Int), ())))
                      else
                       if (decide ((0 : Int) ≤ x3)) = true then
                        if (decide (x3 < ((List.length x1 : Nat) : Int))) = true then
                         if (laws_markText.pre (IntKind.wrap .i64 ((IntKind.wrap .i64 ((IntKind.wrap .i64 ((IntKind.wrap .i64 ((IntKind.wrap .i64 ((IntKind.wrap .i64 ((IntKind.wrap .i64 (x2 + (1 : Int))) + (1 : Int))) + (1 : Int))) + (1 : Int))) + (1 : Int))) + (1 : Int))) + (1 : Int)))) = true then
                          if (!((List.getD x1 (Int.toNat x3) zd14).2.1.2.2.2.2.2.2.1 == (laws_markText (IntKind.wrap .i64 ((IntKind.wrap .i64 ((IntKind.wrap .i64 ((IntKind.wrap .i64 ((IntKind.wrap .i64 ((IntKind.wrap .i64 ((IntKind.wrap .i64 (x2 + (1 : Int))) + (1 : Int))) + (1 : Int))) + (1 : Int))) + (1 : Int))) + (1 : Int))) + (1 : Int)))))) = true then
                           some (.inr (.inl ((-1 : Int), ())))
                          else
                           if (decide ((0 : Int) ≤ x3)) = true then
                            if (decide (x3 < ((List.length x1 : Nat) : Int))) = true then
                             if (laws_markText.pre (IntKind.wrap .i64 ((IntKind.wrap .i64 ((IntKind.wrap .i64 ((IntKind.wrap .i64 ((IntKind.wrap .i64 ((IntKind.wrap .i64 ((IntKind.wrap .i64 ((IntKind.wrap .i64 (x2 + (1 : Int))) + (1 : Int))) + (1 : Int))) + (1 : Int))) + (1 : Int))) + (1 : Int))) + (1 : Int))) + (1 : Int)))) = true then
                              if (!((List.getD x1 (Int.toNat x3) zd14).2.1.2.2.2.2.2.2.2.1 == (laws_markText (IntKind.wrap .i64 ((IntKind.wrap .i64 ((IntKind.wrap .i64 ((IntKind.wrap .i64 ((IntKind.wrap .i64 ((IntKind.wrap .i64 ((IntKind.wrap .i64 ((IntKind.wrap .i64 (x2 + (1 : Int))) + (1 : Int))) + (1 : Int))) + (1 : Int))) + (1 : Int))) + (1 : Int))) + (1 : Int))) + (1 : Int)))))) = true then
                               some (.inr (.inl ((-1 : Int), ())))
                              else
                               some (.inl (x1, ((IntKind.wrap .i64 ((IntKind.wrap .i64 ((IntKind.wrap .i64 ((IntKind.wrap .i64 ((IntKind.wrap .i64 ((IntKind.wrap .i64 ((IntKind.wrap .i64 ((IntKind.wrap .i64 ((IntKind.wrap .i64 (x2 + (1 : Int))) + (1 : Int))) + (1 : Int))) + (1 : Int))) + (1 : Int))) + (1 : Int))) + (1 : Int))) + (1 : Int))) + (1 : Int))), ((IntKind.wrap .i64 (x3 + (1 : Int))), ()))))
                             else
                              none
                            else
                             none
                           else
                            none
                         else
                          none
                        else
                         none
                       else
                        none
                     else
                      none
                    else
                     none
                  else
                   none
                 else
                  none
               else
                none
              else
               none
            else
             none
           else
            none
         else
          none
        else
         none
      else
       none
     else
      none
   else
    none
  else
   none
 else
  some (.inr (.inr (x2, ())))
abbrev wf (x0 : (List Entry)) (x1 : Int) : Prop := wfA [(.val (.sl 0 zk6) .f), (.val (.int .i64) .f)] (x0, (x1, ()))
noncomputable def raw (x0 : (List Entry)) (x1 : Int) : Option zt22 :=
 if (laws_heldEntryS.pre2 (x0, (x1, ((0 : Int), ())))) = true then
  match (laws_heldEntryS.fn2 (x0, (x1, ((0 : Int), ())))) with
  | .inl y =>
   some ((), y)
  | .inr y =>
   some ((), y)
 else
  none
theorem ok2 (x1 : List Entry) (x2 x3 : Int) (hp : pre2 (x1, (x2, (x3, ()))) = true) : Rounds pre2 mu2 fn2 (x1, (x2, (x3, ()))) (raw2 x1 x2 x3) := by
  simp only [pre2, Bool.and_eq_true, decide_eq_true_eq] at hp
  obtain ⟨h1, h2, h3, h4, h5⟩ := hp
  unfold raw2
  by_cases hlt : x3 < (x1.length : Int)
  · have hn : x3.toNat < x1.length := by omega
    have e1 := List.drop_eq_getElem_cons hn
    have e2 : x1.length - x3.toNat = (x1.length - (x3.toNat + 1)) + 1 := by omega
    have w1 : IntKind.wrap .i64 (x2 + 1) = x2 + 1 := w64 (by omega) (by omega)
    have w2 : IntKind.wrap .i64 (x2 + 1 + 1) = x2 + 1 + 1 := w64 (by omega) (by omega)
    have w3 : IntKind.wrap .i64 (x2 + 1 + 1 + 1) = x2 + 1 + 1 + 1 := w64 (by omega) (by omega)
    have w4 : IntKind.wrap .i64 (x2 + 1 + 1 + 1 + 1) = x2 + 1 + 1 + 1 + 1 := w64 (by omega) (by omega)
    have w5 : IntKind.wrap .i64 (x2 + 1 + 1 + 1 + 1 + 1) = x2 + 1 + 1 + 1 + 1 + 1 := w64 (by omega) (by omega)
    have w6 : IntKind.wrap .i64 (x2 + 1 + 1 + 1 + 1 + 1 + 1) = x2 + 1 + 1 + 1 + 1 + 1 + 1 := w64 (by omega) (by omega)
    have w7 : IntKind.wrap .i64 (x2 + 1 + 1 + 1 + 1 + 1 + 1 + 1) = x2 + 1 + 1 + 1 + 1 + 1 + 1 + 1 := w64 (by omega) (by omega)
    have w8 : IntKind.wrap .i64 (x2 + 1 + 1 + 1 + 1 + 1 + 1 + 1 + 1) = x2 + 1 + 1 + 1 + 1 + 1 + 1 + 1 + 1 := w64 (by omega) (by omega)
    have w9 : IntKind.wrap .i64 (x2 + 1 + 1 + 1 + 1 + 1 + 1 + 1 + 1 + 1) = x2 + 1 + 1 + 1 + 1 + 1 + 1 + 1 + 1 + 1 := w64 (by omega) (by omega)
    have p7 : laws_markText.pre (x2 + 1 + 1 + 1 + 1 + 1 + 1 + 1) = true := by simp only [laws_markText.pre, decide_eq_true_eq]; omega
    have p8 : laws_markText.pre (x2 + 1 + 1 + 1 + 1 + 1 + 1 + 1 + 1) = true := by simp only [laws_markText.pre, decide_eq_true_eq]; omega
    simp only [hlt, h2, decide_true, if_true, w1, w2, w3, w4, w5, w6, w7, w8, w9, p7, p8, w64 (n := x3 + 1) (by omega) (by omega), getD_get hn]
    generalize x1[x3.toNat] = e at e1
    have good : e = mE x2 → Rounds pre2 mu2 fn2 (x1, (x2, (x3, ()))) (some (.inl (x1, (x2 + 1 + 1 + 1 + 1 + 1 + 1 + 1 + 1 + 1, (x3 + 1, ()))))) := by
      intro he
      simp only [Rounds]
      refine ⟨?_, by simp only [mu2]; omega, ?_⟩
      · simp only [pre2, Bool.and_eq_true, decide_eq_true_eq]
        omega
      · have hi : x1.drop (x3 + 1).toNat = markEL (x1.length - (x3 + 1).toNat) (x2 + 1 + 1 + 1 + 1 + 1 + 1 + 1 + 1 + 1) ↔ x1.drop x3.toNat = markEL (x1.length - x3.toNat) x2 := by
          rw [show (x3 + 1).toNat = x3.toNat + 1 by omega, e1, e2, markEL, he, List.cons.injEq]; simp
        simp only [fn2]
        by_cases hc : x1.drop x3.toNat = markEL (x1.length - x3.toNat) x2
        · rw [if_pos hc, if_pos (hi.2 hc)]
          congr 2 <;> omega
        · rw [if_neg hc, if_neg (fun h => hc (hi.1 h))]
    have bad : ¬ e = mE x2 → Rounds pre2 mu2 fn2 (x1, (x2, (x3, ()))) (some (.inr (.inl (-1, ())))) := by
      intro he
      simp only [Rounds, fn2]
      rw [if_neg]
      rw [e1, e2, markEL, List.cons.injEq]
      exact fun h => he h.1
    obtain ⟨t, ⟨a1, a2, a3, a4, a5, a6, a7, a8, _⟩, _⟩ := e
    simp only [Bool.not_eq_true', decide_eq_false_iff_not, beq_eq_false_iff_ne, ne_eq]
    by_cases c0 : t = x2
    case neg => rw [if_pos c0]; exact bad fun h => c0 (congrArg (fun e : Entry => e.1) h)
    rw [if_neg (by simp [c0])]
    by_cases c1 : a1 = x2 + 1
    case neg => rw [if_pos c1]; exact bad fun h => c1 (congrArg (fun e : Entry => e.2.1.1) h)
    rw [if_neg (by simp [c1])]
    by_cases c2 : a2 = x2 + 1 + 1
    case neg => rw [if_pos c2]; exact bad fun h => c2 (congrArg (fun e : Entry => e.2.1.2.1) h)
    rw [if_neg (by simp [c2])]
    by_cases c3 : a3 = x2 + 1 + 1 + 1
    case neg => rw [if_pos c3]; exact bad fun h => c3 (congrArg (fun e : Entry => e.2.1.2.2.1) h)
    rw [if_neg (by simp [c3])]
    by_cases c4 : a4 = x2 + 1 + 1 + 1 + 1
    case neg => rw [if_pos c4]; exact bad fun h => c4 (congrArg (fun e : Entry => e.2.1.2.2.2.1) h)
    rw [if_neg (by simp [c4])]
    by_cases c5 : a5 = x2 + 1 + 1 + 1 + 1 + 1
    case neg => rw [if_pos c5]; exact bad fun h => c5 (congrArg (fun e : Entry => e.2.1.2.2.2.2.1) h)
    rw [if_neg (by simp [c5])]
    by_cases c6 : a6 = x2 + 1 + 1 + 1 + 1 + 1 + 1
    case neg => rw [if_pos c6]; exact bad fun h => c6 (congrArg (fun e : Entry => e.2.1.2.2.2.2.2.1) h)
    rw [if_neg (by simp [c6])]
    by_cases c7 : a7 = laws_markText (x2 + 1 + 1 + 1 + 1 + 1 + 1 + 1)
    case neg => rw [if_pos c7]; exact bad fun h => c7 (congrArg (fun e : Entry => e.2.1.2.2.2.2.2.2.1) h)
    rw [if_neg (by simp [c7])]
    by_cases c8 : a8 = laws_markText (x2 + 1 + 1 + 1 + 1 + 1 + 1 + 1 + 1)
    case neg => rw [if_pos c8]; exact bad fun h => c8 (congrArg (fun e : Entry => e.2.1.2.2.2.2.2.2.2.1) h)
    rw [if_neg (by simp [c8])]
    exact good (by subst c0; subst c1; subst c2; subst c3; subst c4; subst c5; subst c6; subst c7; subst c8; rfl)
  · simp only [hlt, decide_false, Bool.false_eq_true, if_false, Rounds, fn2]
    rw [List.drop_eq_nil_of_le (by omega), show x1.length - x3.toNat = 0 by omega, markEL, if_pos rfl]
    congr 2 <;> omega
theorem eq (x0 : List Entry) (x1 : Int) (_ : wf x0 x1) (hp : pre x0 x1 = true) : raw x0 x1 = some ((), (laws_heldEntryS x0 x1, ())) := by
  simp only [pre, laws_markEntryS.pre, Bool.and_eq_true, decide_eq_true_eq, small_iff] at hp
  unfold raw laws_heldEntryS
  rw [if_pos (show pre2 _ = true by simp only [pre2, Bool.and_eq_true, decide_eq_true_eq]; simp; omega)]
  by_cases he : x0 = markEL x0.length x1
  · have hf : fn2 (x0, (x1, ((0 : Int), ()))) = .inr (x1 + 9 * ((x0.length : Int) - 0), ()) := if_pos he
    rw [hf, if_pos he]
    simp
  · have hf : fn2 (x0, (x1, ((0 : Int), ()))) = .inl (-1, ()) := if_neg he
    rw [hf, if_neg he]
end laws_heldEntryS
noncomputable def laws_heldLog (x : Log) (k : Int) : Int := let r := laws_heldEntryS x.2.2.1 k; if r < 0 then -1 else r
namespace laws_heldLog
def pre (x : Log) (k : Int) : Bool := laws_markEntryS.pre x.2.2.1 k
abbrev wf (x0 : Log) (x1 : Int) : Prop := wfA [(.val zk20 .f), (.val (.int .i64) .f)] (x0, (x1, ()))
noncomputable def raw (x0 : Log) (x1 : Int) : Option zt22 :=
 if (laws_heldEntryS.pre x0.2.2.1 x1) = true then
  if (decide ((laws_heldEntryS x0.2.2.1 x1) < (0 : Int))) = true then
   some ((), ((-1 : Int), ()))
  else
   some ((), ((laws_heldEntryS x0.2.2.1 x1), ()))
 else
  none
theorem eq (x0 : Log) (x1 : Int) (_ : wf x0 x1) (hp : pre x0 x1 = true) : raw x0 x1 = some ((), (laws_heldLog x0 x1, ())) := by
  unfold raw laws_heldLog
  rw [if_pos (show laws_heldEntryS.pre _ _ = true from hp)]
  simp only [decide_eq_true_eq]
  split <;> rfl
end laws_heldLog
section
variable {α : Type}
theorem getD_modify {xs : List α} {i : Nat} {f : α → α} {d : α} (h : i < xs.length) : (xs.modify i f).getD i d = f (xs.getD i d) := by
  rw [getD_get (by rw [List.length_modify]; exact h), getD_get h, List.getElem_modify, if_pos rfl]
def cntL (g : α → Int) : List α → Int
  | [] => 0
  | a :: r => g a + cntL g r
def mkL (m : α → Int → α) (g : α → Int) : List α → Int → List α
  | [], _ => []
  | a :: r, k => m a k :: mkL m g r (k + g a)
structure MkOk (m : α → Int → α) (g : α → Int) : Prop where
  pos : ∀ x, 1 ≤ g x
  keep : ∀ x k, g (m x k) = g x
  idem : ∀ x k, m (m x k) k = m x k
theorem cntL_len {m : α → Int → α} {g : α → Int} (ok : MkOk m g) : (xs : List α) → (xs.length : Int) ≤ cntL g xs
  | [] => by simp [cntL]
  | a :: r => by
    have := ok.pos a
    have := cntL_len ok r
    simp only [cntL, List.length_cons]; omega
theorem cntL_nn {m : α → Int → α} {g : α → Int} (ok : MkOk m g) (xs : List α) : 0 ≤ cntL g xs := by
  have := cntL_len ok xs
  omega
theorem cntL_mkL {m : α → Int → α} {g : α → Int} (ok : MkOk m g) : (xs : List α) → (k : Int) → cntL g (mkL m g xs k) = cntL g xs
  | [], _ => rfl
  | a :: r, k => by simp only [mkL, cntL, ok.keep, cntL_mkL ok r]
theorem mkL_mkL {m : α → Int → α} {g : α → Int} (ok : MkOk m g) : (xs : List α) → (k : Int) → mkL m g (mkL m g xs k) k = mkL m g xs k
  | [], _ => rfl
  | a :: r, k => by simp only [mkL, ok.keep, ok.idem, mkL_mkL ok r]
abbrev MkS (α : Type) := Int × (Int × (List α × Unit))
def mkPre (g : α → Int) : MkS α → Bool := fun s => decide (0 ≤ s.1) && (decide (0 ≤ s.2.1) && (decide (s.2.1.toNat ≤ s.2.2.1.length) && (decide (s.2.2.1.length ≤ 134217728) && decide (s.1 + cntL g (s.2.2.1.drop s.2.1.toNat) ≤ 134217728))))
def mkFn (m : α → Int → α) (g : α → Int) : MkS α → Int × (List α × Unit) := fun s => (s.1 + cntL g (s.2.2.1.drop s.2.1.toNat), (s.2.2.1.take s.2.1.toNat ++ mkL m g (s.2.2.1.drop s.2.1.toNat) s.1, ()))
def mkMu : MkS α → Nat := fun s => s.2.2.1.length - s.2.1.toNat
theorem mk_facts {m : α → Int → α} {g : α → Int} (ok : MkOk m g) {k i : Int} {xs : List α} (hp : mkPre g (k, (i, (xs, ()))) = true) (hlt : i < (xs.length : Int)) (d : α) :
    0 ≤ i ∧ 0 ≤ k ∧ k + g (xs.getD i.toNat d) ≤ 134217728 ∧ i.toNat < xs.length := by
  simp only [mkPre, Bool.and_eq_true, decide_eq_true_eq] at hp
  obtain ⟨h1, h2, h3, h4, h5⟩ := hp
  have hn : i.toNat < xs.length := by omega
  rw [getD_get hn]
  rw [List.drop_eq_getElem_cons hn] at h5
  have := cntL_nn ok (xs.drop (i.toNat + 1))
  simp only [cntL] at h5
  exact ⟨h2, h1, by omega, hn⟩
theorem mk_step {m : α → Int → α} {g : α → Int} (ok : MkOk m g) {k i : Int} {xs : List α} (hp : mkPre g (k, (i, (xs, ()))) = true) (hlt : i < (xs.length : Int)) (d : α)
    {K : Int} {f : α → α} (hK : K = k + g (xs.getD i.toNat d)) (hf : f (xs.getD i.toNat d) = m (xs.getD i.toNat d) k) :
    Rounds (mkPre g) mkMu (mkFn m g) (k, (i, (xs, ()))) (some (.inl (K, (IntKind.wrap .i64 (i + 1), (xs.modify i.toNat f, ()))))) := by
  have hfa := mk_facts ok hp hlt d
  simp only [mkPre, Bool.and_eq_true, decide_eq_true_eq] at hp
  obtain ⟨h1, h2, h3, h4, h5⟩ := hp
  have hn : i.toNat < xs.length := by omega
  rw [getD_get hn] at *
  have hpos := ok.pos xs[i.toNat]
  have hd : (xs.modify i.toNat f).drop (i.toNat + 1) = xs.drop (i.toNat + 1) := by
    rw [List.drop_modify_of_lt]; omega
  have ht : (xs.modify i.toNat f).take (i.toNat + 1) = xs.take i.toNat ++ [m xs[i.toNat] k] := by
    rw [List.take_add_one, List.getElem?_eq_getElem (by rw [List.length_modify]; exact hn), List.getElem_modify, if_pos rfl, hf]
    congr 1
    apply List.ext_getElem?
    intro j
    rw [List.getElem?_take, List.getElem?_take]
    split
    · rw [List.getElem?_modify]
      have hne : ¬ i.toNat = j := by omega
      simp only [hne, if_false]
      cases xs[j]? <;> rfl
    · rfl
  rw [List.drop_eq_getElem_cons hn] at h5
  simp only [cntL] at h5
  simp only [Rounds, w64 (n := i + 1) (by omega) (by omega)]
  have ei : (i + 1).toNat = i.toNat + 1 := by omega
  refine ⟨?_, by simp only [mkMu, List.length_modify]; omega, ?_⟩
  · simp only [mkPre, Bool.and_eq_true, decide_eq_true_eq, List.length_modify, ei, hd]
    omega
  · simp only [mkFn, ei, hd, ht]
    conv => rhs; rw [List.drop_eq_getElem_cons hn]
    simp only [cntL, mkL, hK, List.append_assoc, List.cons_append, List.nil_append, Int.add_assoc]
theorem mk_end {m : α → Int → α} {g : α → Int} {k i : Int} {xs : List α} (hp : mkPre g (k, (i, (xs, ()))) = true) (hlt : ¬ i < (xs.length : Int)) :
    Rounds (mkPre g) mkMu (mkFn m g) (k, (i, (xs, ()))) (some (.inr (k, (xs, ())))) := by
  simp only [mkPre, Bool.and_eq_true, decide_eq_true_eq] at hp
  obtain ⟨h1, h2, h3, h4, h5⟩ := hp
  simp only [Rounds, mkFn]
  rw [List.drop_eq_nil_of_le (by omega), List.take_of_length_le (by omega)]
  simp [cntL, mkL]
def mPre (g : α → Int) (xs : List α) (k : Int) : Bool := decide (0 ≤ k) && decide (k + cntL g xs ≤ 134217728)
theorem mPre_iff {g : α → Int} {xs : List α} {k : Int} : mPre g xs k = true ↔ 0 ≤ k ∧ k + cntL g xs ≤ 134217728 := by simp [mPre]
theorem mk_start {m : α → Int → α} {g : α → Int} (ok : MkOk m g) {xs : List α} {k : Int} (h : mPre g xs k = true) : mkPre g (k, ((0 : Int), (xs, ()))) = true := by
  rw [mPre_iff] at h
  have := cntL_len ok xs
  simp only [mkPre, Bool.and_eq_true, decide_eq_true_eq, Int.toNat_zero, List.drop_zero]
  omega
noncomputable def heldN (m : α → Int → α) (g : α → Int) (x : α) (k : Int) : Int := cond (same x (m x k)) (k + g x) (-1)
theorem heldN_pos {m : α → Int → α} {g : α → Int} {x : α} {k : Int} (h : x = m x k) : heldN m g x k = k + g x := by
  rw [heldN, same_true.2 h]; rfl
theorem heldN_neg {m : α → Int → α} {g : α → Int} {x : α} {k : Int} (h : ¬ x = m x k) : heldN m g x k = -1 := by
  rw [heldN, same_false.2 h]; rfl
theorem held_mk {m : α → Int → α} {g : α → Int} (h1 : ∀ x k, g (m x k) = g x) (h2 : ∀ x k, m (m x k) k = m x k) (x : α) (k : Int) : heldN m g (m x k) k = k + g x := by
  rw [heldN_pos (h2 x k).symm, h1]
abbrev HeS (α : Type) := List α × (Int × (Int × Unit))
def hePre (g : α → Int) : HeS α → Bool := fun s => decide (0 ≤ s.2.1) && (decide (0 ≤ s.2.2.1) && (decide (s.2.2.1.toNat ≤ s.1.length) && (decide (s.1.length ≤ 134217728) && decide (s.2.1 + cntL g (s.1.drop s.2.2.1.toNat) ≤ 134217728))))
noncomputable def heFn (m : α → Int → α) (g : α → Int) : HeS α → (Int × Unit) ⊕ (Int × Unit) := fun s =>
  cond (same (s.1.drop s.2.2.1.toNat) (mkL m g (s.1.drop s.2.2.1.toNat) s.2.1)) (.inr (s.2.1 + cntL g (s.1.drop s.2.2.1.toNat), ())) (.inl (-1, ()))
def heMu : HeS α → Nat := fun s => s.1.length - s.2.2.1.toNat
theorem he_facts {m : α → Int → α} {g : α → Int} (ok : MkOk m g) {k i : Int} {xs : List α} (hp : hePre g (xs, (k, (i, ()))) = true) (hlt : i < (xs.length : Int)) (d : α) :
    0 ≤ i ∧ 0 ≤ k ∧ k + g (xs.getD i.toNat d) ≤ 134217728 := by
  simp only [hePre, Bool.and_eq_true, decide_eq_true_eq] at hp
  obtain ⟨h1, h2, h3, h4, h5⟩ := hp
  have hn : i.toNat < xs.length := by omega
  rw [getD_get hn]
  rw [List.drop_eq_getElem_cons hn] at h5
  have := cntL_nn ok (xs.drop (i.toNat + 1))
  simp only [cntL] at h5
  exact ⟨h2, h1, by omega⟩
theorem he_good {m : α → Int → α} {g : α → Int} (ok : MkOk m g) {k i : Int} {xs : List α} (hp : hePre g (xs, (k, (i, ()))) = true) (hlt : i < (xs.length : Int)) (d : α)
    {K : Int} (hK : K = k + g (xs.getD i.toNat d)) (he : xs.getD i.toNat d = m (xs.getD i.toNat d) k) :
    Rounds (hePre g) heMu (heFn m g) (xs, (k, (i, ()))) (some (.inl (xs, (K, (IntKind.wrap .i64 (i + 1), ()))))) := by
  simp only [hePre, Bool.and_eq_true, decide_eq_true_eq] at hp
  obtain ⟨h1, h2, h3, h4, h5⟩ := hp
  have hn : i.toNat < xs.length := by omega
  rw [getD_get hn] at *
  have hpos := ok.pos xs[i.toNat]
  rw [List.drop_eq_getElem_cons hn] at h5
  simp only [cntL] at h5
  have ei : (i + 1).toNat = i.toNat + 1 := by omega
  simp only [Rounds, w64 (n := i + 1) (by omega) (by omega)]
  refine ⟨?_, by simp only [heMu]; omega, ?_⟩
  · simp only [hePre, Bool.and_eq_true, decide_eq_true_eq, ei]
    omega
  · simp only [heFn, ei]
    rw [List.drop_eq_getElem_cons hn]
    simp only [mkL, cntL]
    subst hK
    by_cases hc : xs.drop (i.toNat + 1) = mkL m g (xs.drop (i.toNat + 1)) (k + g xs[i.toNat])
    · rw [same_true.2 hc, same_true.2 (List.cons.injEq .. ▸ ⟨he, hc⟩), Int.add_assoc]
    · rw [same_false.2 hc, same_false.2 (fun h => hc (List.cons.inj h).2)]; rfl
theorem he_bad {m : α → Int → α} {g : α → Int} {k i : Int} {xs : List α} (hp : hePre g (xs, (k, (i, ()))) = true) (hlt : i < (xs.length : Int)) (d : α)
    (he : ¬ xs.getD i.toNat d = m (xs.getD i.toNat d) k) :
    Rounds (hePre g) heMu (heFn m g) (xs, (k, (i, ()))) (some (.inr (.inl (-1, ())))) := by
  simp only [hePre, Bool.and_eq_true, decide_eq_true_eq] at hp
  obtain ⟨h1, h2, h3, h4, h5⟩ := hp
  have hn : i.toNat < xs.length := by omega
  rw [getD_get hn] at he
  simp only [Rounds, heFn]
  rw [List.drop_eq_getElem_cons hn]
  simp only [mkL]
  rw [same_false.2 (fun h => he (List.cons.inj h).1)]
  rfl
theorem he_end {m : α → Int → α} {g : α → Int} {k i : Int} {xs : List α} (hp : hePre g (xs, (k, (i, ()))) = true) (hlt : ¬ i < (xs.length : Int)) :
    Rounds (hePre g) heMu (heFn m g) (xs, (k, (i, ()))) (some (.inr (.inr (k, ())))) := by
  simp only [hePre, Bool.and_eq_true, decide_eq_true_eq] at hp
  obtain ⟨h1, h2, h3, h4, h5⟩ := hp
  simp only [Rounds, heFn]
  rw [List.drop_eq_nil_of_le (by omega)]
  simp only [mkL, cntL, Int.add_zero]
  rw [same_self]
  rfl
theorem he_start {m : α → Int → α} {g : α → Int} (ok : MkOk m g) {xs : List α} {k : Int} (h : mPre g xs k = true) : hePre g (xs, (k, ((0 : Int), ()))) = true := by
  rw [mPre_iff] at h
  have := cntL_len ok xs
  simp only [hePre, Bool.and_eq_true, decide_eq_true_eq, Int.toNat_zero, List.drop_zero]
  omega
theorem heFn_start {m : α → Int → α} {g : α → Int} (xs : List α) (k : Int) :
    (match heFn m g (xs, (k, ((0 : Int), ()))) with | .inl y => some ((), y) | .inr y => some ((), y)) = some ((), (heldN (mkL m g) (cntL g) xs k, ())) := by
  have e : heFn m g (xs, (k, ((0 : Int), ()))) = cond (same xs (mkL m g xs k)) (.inr (k + cntL g xs, ())) (.inl (-1, ())) := rfl
  rw [e]
  by_cases h : xs = mkL m g xs k
  · rw [same_true.2 h, heldN_pos h]; rfl
  · rw [same_false.2 h, heldN_neg h]; rfl
def szN (w l : Int) : Int := if l - w < 0 then -1 else l - w
theorem szN_pos {w l : Int} (h : ¬ l - w < 0) : szN w l = l - w := if_neg h
theorem szN_neg {w l : Int} (h : l - w < 0) : szN w l = -1 := if_pos h
def sumW (w : α → Int) : List α → Int
  | [] => 0
  | a :: r => w a + sumW w r
def wL (w : α → Int) (xs : List α) : Int := xs.length + sumW w xs
theorem sumW_nn {w : α → Int} (h : ∀ x, 0 ≤ w x) : (xs : List α) → 0 ≤ sumW w xs
  | [] => by simp [sumW]
  | a :: r => by
    have := h a
    have := sumW_nn h r
    simp only [sumW]; omega
theorem wL_nn {w : α → Int} (h : ∀ x, 0 ≤ w x) (xs : List α) : (xs.length : Int) ≤ wL w xs := by
  have := sumW_nn h xs
  simp only [wL]; omega
theorem sumW_get {w : α → Int} (h : ∀ x, 0 ≤ w x) : {xs : List α} → {x : α} → x ∈ xs → w x ≤ sumW w xs
  | a :: r, x, hx => by
    have h1 := h a
    have h2 := sumW_nn h r
    rcases List.mem_cons.1 hx with rfl | hx
    · simp only [sumW]; omega
    · have := sumW_get h hx
      simp only [sumW]; omega
theorem wL_get {w : α → Int} (h : ∀ x, 0 ≤ w x) {xs : List α} {x : α} (hx : x ∈ xs) : w x ≤ wL w xs := by
  have := sumW_get h hx
  simp only [wL]; omega
theorem cntL_le {g w : α → Int} (h : ∀ x, g x ≤ 32 + 32 * w x) : (xs : List α) → cntL g xs ≤ 32 * wL w xs
  | [] => by simp [cntL, wL, sumW]
  | a :: r => by
    have := h a
    have := cntL_le h r
    simp only [cntL, wL, sumW, List.length_cons] at *
    omega
def swPre : SzS α → Bool := fun s => decide (s.1.length ≤ maxLen) && (decide (0 ≤ s.2.2.1) && (decide (s.2.2.1.toNat ≤ s.1.length) && (decide (0 ≤ s.2.1) && decide (s.2.1 ≤ maxLen))))
def swFn (w : α → Int) : SzS α → (Int × Unit) ⊕ (Int × Unit) := fun s => if s.2.1 - sumW w (s.1.drop s.2.2.1.toNat) < 0 then .inl (-1, ()) else .inr (s.2.1 - sumW w (s.1.drop s.2.2.1.toNat), ())
theorem sw_facts {l i : Int} {xs : List α} (hp : swPre (xs, (l, (i, ()))) = true) : 0 ≤ i ∧ 0 ≤ l ∧ l ≤ maxLen := by
  simp only [swPre, Bool.and_eq_true, decide_eq_true_eq] at hp
  exact ⟨hp.2.1, hp.2.2.2.1, hp.2.2.2.2⟩
theorem sw_bad {w : α → Int} (hw : ∀ x, 0 ≤ w x) {l i : Int} {xs : List α} (hp : swPre (xs, (l, (i, ()))) = true) (hlt : i < (xs.length : Int)) (d : α)
    (h : l - w (xs.getD i.toNat d) < 0) : Rounds swPre szMu (swFn w) (xs, (l, (i, ()))) (some (.inr (.inl (-1, ())))) := by
  simp only [swPre, Bool.and_eq_true, decide_eq_true_eq] at hp
  obtain ⟨h1, h2, h3, h4, h5⟩ := hp
  have hn : i.toNat < xs.length := by omega
  rw [getD_get hn] at h
  have := sumW_nn hw (xs.drop (i.toNat + 1))
  simp only [Rounds, swFn]
  rw [List.drop_eq_getElem_cons hn, if_pos (by simp only [sumW]; omega)]
theorem sw_good {w : α → Int} (hw : ∀ x, 0 ≤ w x) {l i : Int} {xs : List α} (hp : swPre (xs, (l, (i, ()))) = true) (hlt : i < (xs.length : Int)) (d : α)
    (h : ¬ l - w (xs.getD i.toNat d) < 0) : Rounds swPre szMu (swFn w) (xs, (l, (i, ()))) (some (.inl (xs, (l - w (xs.getD i.toNat d), (IntKind.wrap .i64 (i + 1), ()))))) := by
  simp only [swPre, Bool.and_eq_true, decide_eq_true_eq] at hp
  obtain ⟨h1, h2, h3, h4, h5⟩ := hp
  have hM := maxLen_eq
  have hn : i.toNat < xs.length := by omega
  rw [getD_get hn] at h ⊢
  have := hw xs[i.toNat]
  have ei : (i + 1).toNat = i.toNat + 1 := by omega
  simp only [Rounds, w64 (n := i + 1) (by omega) (by omega)]
  refine ⟨?_, by simp only [szMu]; omega, ?_⟩
  · simp only [swPre, Bool.and_eq_true, decide_eq_true_eq, ei]; omega
  · simp only [swFn, ei]
    rw [List.drop_eq_getElem_cons hn]
    simp only [sumW, Int.sub_sub]
    rfl
theorem sw_end {w : α → Int} {l i : Int} {xs : List α} (hp : swPre (xs, (l, (i, ()))) = true) (hlt : ¬ i < (xs.length : Int)) :
    Rounds swPre szMu (swFn w) (xs, (l, (i, ()))) (some (.inr (.inr (l, ())))) := by
  simp only [swPre, Bool.and_eq_true, decide_eq_true_eq] at hp
  obtain ⟨h1, h2, h3, h4, h5⟩ := hp
  simp only [Rounds, swFn]
  rw [List.drop_eq_nil_of_le (by omega)]
  simp only [sumW, Int.sub_zero]
  rw [if_neg (by omega)]
theorem sw_start {xs : List α} (h : xs.length ≤ maxLen) {l : Int} (h0 : 0 ≤ l) (h1 : l ≤ maxLen) : swPre (xs, (l, ((0 : Int), ()))) = true := by
  simp only [swPre, Bool.and_eq_true, decide_eq_true_eq]; omega
theorem swFn_start {w : α → Int} (xs : List α) (l : Int) :
    (match swFn w (xs, (l - xs.length, ((0 : Int), ()))) with | .inl y => some ((), y) | .inr y => some ((), y)) = some ((), (szN (wL w xs) l, ())) := by
  have e : swFn w (xs, (l - xs.length, ((0 : Int), ()))) = if l - xs.length - sumW w xs < 0 then .inl (-1, ()) else .inr (l - xs.length - sumW w xs, ()) := rfl
  have e2 : l - wL w xs = l - xs.length - sumW w xs := by simp only [wL, Int.sub_sub]
  rw [e]
  by_cases h : l - xs.length - sumW w xs < 0
  · rw [if_pos h, szN_neg (by omega)]
  · rw [if_neg h, szN_pos (by omega), e2]
def tcPre (p : α → Bool) : ToS α → Prop := fun s => toPre s ∧ s.1.all p = true
open Classical in
noncomputable def tcPreB (p : α → Bool) (s : ToS α) : Bool := decide (tcPre p s)
theorem tcPreB_iff {p : α → Bool} {s : ToS α} : tcPreB p s = true ↔ tcPre p s := by simp [tcPreB]
theorem tc_facts {p : α → Bool} {x1 : List α} {x2 : Int} {x3 : List α} (hp : tcPreB p (x1, (x2, (x3, ()))) = true) (hlt : x2 < (x1.length : Int)) (d : α) :
    x2 < (x3.length : Int) ∧ 0 ≤ x2 ∧ p (x1.getD x2.toNat d) = true := by
  rw [tcPreB_iff] at hp
  obtain ⟨⟨h1, h2, h3, h4, h5⟩, h6⟩ := hp
  simp only [] at h1 h2 h3 h4 h5 h6
  refine ⟨by omega, h2, ?_⟩
  rw [getD_get (by omega)]
  exact List.all_eq_true.1 h6 _ (List.getElem_mem _)
theorem tc_step {p : α → Bool} {x1 : List α} {x2 : Int} {x3 : List α} (hp : tcPreB p (x1, (x2, (x3, ()))) = true) (hlt : x2 < (x1.length : Int)) (d : α) {f : α → α} (hf : f = fun _ => x1.getD x2.toNat d) :
    Rounds (tcPreB p) toMu toFn (x1, (x2, (x3, ()))) (some (.inl (x1, (IntKind.wrap .i64 (x2 + 1), (x3.modify x2.toNat f, ()))))) := by
  rw [tcPreB_iff] at hp
  have := (to_next (toPreB_iff.2 hp.1) hlt d).2.2
  rw [hf]
  simp only [Rounds] at *
  refine ⟨?_, this.2.1, this.2.2⟩
  rw [tcPreB_iff]
  exact ⟨toPreB_iff.1 this.1, hp.2⟩
theorem tc_end {p : α → Bool} {x1 : List α} {x2 : Int} {x3 : List α} (hp : tcPreB p (x1, (x2, (x3, ()))) = true) (hlt : ¬ x2 < (x1.length : Int)) :
    Rounds (tcPreB p) toMu toFn (x1, (x2, (x3, ()))) (some (.inr (x3, ()))) := by
  rw [tcPreB_iff] at hp
  exact to_end (toPreB_iff.2 hp.1) hlt
theorem tc_start {p : α → Bool} {x : List α} (h : x.length ≤ maxLen) (ha : x.all p = true) (d : α) : tcPreB p (x, ((0 : Int), (List.replicate (Int.toNat ((x.length : Nat) : Int)) d, ()))) = true := by
  rw [tcPreB_iff]
  exact ⟨toPreB_iff.1 (to_start h d), ha⟩
end
def mk_Int (_ : Int) (k : Int) : Int := k
def mk_Byte (_ : Int) (k : Int) : Int := IntKind.wrap .u8 k
def cnt_Int (_ : Int) : Int := 1
def cnt_Byte (_ : Int) : Int := 1
theorem mk_Int_ok : MkOk mk_Int cnt_Int := ⟨fun _ => Int.le_refl _, fun _ _ => rfl, fun _ _ => rfl⟩
theorem mk_Byte_ok : MkOk mk_Byte cnt_Byte := ⟨fun _ => Int.le_refl _, fun _ _ => rfl, fun _ _ => rfl⟩
theorem sumW_zero {α : Type} {w : α → Int} (h : ∀ x, w x = 0) : (xs : List α) → sumW w xs = 0
  | [] => rfl
  | a :: r => by simp only [sumW, h, sumW_zero h r]; rfl
def w_Int (_ : Int) : Int := 0
theorem w_Int_nn (x : Int) : 0 ≤ w_Int x := Int.le_refl _
def w_Byte (_ : Int) : Int := 0
theorem w_Byte_nn (x : Int) : 0 ≤ w_Byte x := Int.le_refl _
def w_Bool (_ : Bool) : Int := 0
theorem w_Bool_nn (x : Bool) : 0 ≤ w_Bool x := Int.le_refl _
def cnt_Bool (_ : Bool) : Int := 1
theorem cnt_Int_le (x : Int) : cnt_Int x ≤ 32 + 32 * w_Int x := by simp only [cnt_Int, w_Int]; omega
theorem cnt_Byte_le (x : Int) : cnt_Byte x ≤ 32 + 32 * w_Byte x := by simp only [cnt_Byte, w_Byte]; omega
theorem cnt_Bool_le (x : Bool) : cnt_Bool x ≤ 32 + 32 * w_Bool x := by simp only [cnt_Bool, w_Bool]; omega
def mk_Bool (_ : Bool) (k : Int) : Bool := decide (Int.tmod k 3 = 0)
theorem mk_Bool_ok : MkOk mk_Bool cnt_Bool := ⟨fun _ => Int.le_refl _, fun _ _ => rfl, fun _ _ => rfl⟩
noncomputable def laws_eqIntS (a b : List Int) : Bool := same a b
namespace laws_eqIntS
def pre4 := eqPre (α := Int)
noncomputable def fn4 := eqFn (α := Int)
def mu4 := eqMu (α := Int)
noncomputable def raw4 (x1 : (List Int)) (x2 : (List Int)) (x3 : Int) : Option (((List Int) × Disk) ⊕ ((Bool × Unit) ⊕ Unit)) :=
 if (decide (x3 < ((List.length x1 : Nat) : Int))) = true then
  if (decide ((0 : Int) ≤ x3)) = true then
   if (decide (x3 < ((List.length x1 : Nat) : Int))) = true then
    if (decide ((0 : Int) ≤ x3)) = true then
     if (decide (x3 < ((List.length x2 : Nat) : Int))) = true then
      if (!(decide ((List.getD x1 (Int.toNat x3) (0 : Int)) = (List.getD x2 (Int.toNat x3) (0 : Int))))) = true then
       some (.inr (.inl (false, ())))
      else
       some (.inl (x1, (x2, ((IntKind.wrap .i64 (x3 + (1 : Int))), ()))))
     else
      none
    else
     none
   else
    none
  else
   none
 else
  some (.inr (.inr ()))
abbrev wf (x0 : (List Int)) (x1 : (List Int)) : Prop := wfA [(.val (.sl 0 (.int .i64)) .f), (.val (.sl 0 (.int .i64)) .f)] (x0, (x1, ()))
noncomputable def raw (x0 : (List Int)) (x1 : (List Int)) : Option zt25 :=
 if (!(decide (((List.length x0 : Nat) : Int) = ((List.length x1 : Nat) : Int)))) = true then
  some ((), (false, ()))
 else
  if (laws_eqIntS.pre4 (x0, (x1, ((0 : Int), ())))) = true then
   letB (laws_eqIntS.fn4 (x0, (x1, ((0 : Int), ())))) fun v1 =>
   match v1 with
   | .inl y =>
    some ((), y)
   | .inr y =>
    some ((), (true, ()))
  else
   none
theorem ok4 (x1 x2 : List Int) (x3 : Int) (hp : pre4 (x1, (x2, (x3, ()))) = true) : Rounds pre4 mu4 fn4 (x1, (x2, (x3, ()))) (raw4 x1 x2 x3) := by
  unfold raw4
  by_cases hlt : x3 < (x1.length : Int)
  · obtain ⟨h1, h2, h3, h4⟩ := eq_next hp hlt (0 : Int)
    simp only [letB, hlt, h1, h2, decide_true, if_true]
    by_cases h : x1.getD x3.toNat (0 : Int) = x2.getD x3.toNat (0 : Int)
    · rw [if_neg (by simp only [h, decide_true, Bool.not_true, Bool.false_eq_true, not_false_eq_true])]; exact h3 h
    · rw [if_pos (by simp only [h, decide_false, Bool.not_false])]; exact h4 h
  · simp only [hlt, decide_false, Bool.false_eq_true, if_false]
    exact eq_end hp hlt
theorem eq (x0 x1 : List Int) (hw : wf x0 x1) : raw x0 x1 = some ((), (laws_eqIntS x0 x1, ())) := by
  have h1 : x0.length ≤ maxLen := hw.1.1
  unfold raw laws_eqIntS
  by_cases hl : (x0.length : Int) = (x1.length : Int)
  · rw [if_neg (by simp [hl]), if_pos (show pre4 _ = true from eq_start h1 hl)]
    unfold fn4
    by_cases he : x0 = x1
    · rw [eqFn_eq he, same_true.2 he]; rfl
    · rw [eqFn_ne he, same_false.2 he]; rfl
  · have : ¬ x0 = x1 := fun h => hl (by rw [h])
    rw [if_pos (by simp [hl]), same_false.2 this]
end laws_eqIntS
def laws_toIntS (xs : List Int) : List Int := xs
namespace laws_toIntS
def pre (xs : List Int) : Bool := small xs && xs.all (fun _ => true)
noncomputable def pre3 := tcPreB (α := Int) (fun _ => true)
def fn3 := toFn (α := Int)
def mu3 := toMu (α := Int)
noncomputable def raw3 (x1 : (List Int)) (x2 : Int) (x3 : (List Int)) : Option (((List Int) × (Int × zt31)) ⊕ zt31) :=
 if (decide (x2 < ((List.length x1 : Nat) : Int))) = true then
  if (decide ((0 : Int) ≤ x2)) = true then
   if (decide (x2 < ((List.length x1 : Nat) : Int))) = true then
    if (decide ((0 : Int) ≤ x2)) = true then
     if (decide (x2 < ((List.length x3 : Nat) : Int))) = true then
      some (.inl (x1, ((IntKind.wrap .i64 (x2 + (1 : Int))), ((List.modify x3 (Int.toNat x2) (fun z => (List.getD x1 (Int.toNat x2) (0 : Int)))), ()))))
     else
      none
    else
     none
   else
    none
  else
   none
 else
  some (.inr (x3, ()))
abbrev wf (x0 : (List Int)) : Prop := wfA [(.val (.sl 0 (.int .i64)) .f)] (x0, ())
noncomputable def raw (x0 : (List Int)) : Option (Unit × zt31) :=
 if (decide ((0 : Int) ≤ ((List.length x0 : Nat) : Int))) = true then
  if (decide (((List.length x0 : Nat) : Int) ≤ ((List.length x0 : Nat) : Int))) = true then
   if (decide (((List.length x0 : Nat) : Int) ≤ (4294967296 : Int))) = true then
    if (laws_toIntS.pre3 (x0, ((0 : Int), ((List.replicate (Int.toNat ((List.length x0 : Nat) : Int)) (0 : Int)), ())))) = true then
     letB (laws_toIntS.fn3 (x0, ((0 : Int), ((List.replicate (Int.toNat ((List.length x0 : Nat) : Int)) (0 : Int)), ())))) fun v1 =>
     some ((), v1)
    else
     none
   else
    none
  else
   none
 else
  none
theorem ok3 (x1 : List Int) (x2 : Int) (x3 : List Int) (hp : pre3 (x1, (x2, (x3, ()))) = true) : Rounds pre3 mu3 fn3 (x1, (x2, (x3, ()))) (raw3 x1 x2 x3) := by
  unfold raw3
  by_cases hlt : x2 < (x1.length : Int)
  · obtain ⟨h1, h2, h3⟩ := tc_facts hp hlt (0 : Int)
    simp only [letB, hlt, h1, h2, h3, decide_true, if_true]
    exact tc_step hp hlt (0 : Int) rfl
  · rw [if_neg (by simp [hlt])]; exact tc_end hp hlt
theorem eq (x0 : List Int) (hw : wf x0) (hp : pre x0 = true) : raw x0 = some ((), (laws_toIntS x0, ())) := by
  have h1 : x0.length ≤ maxLen := hw.1.1
  simp only [pre, Bool.and_eq_true, small_iff] at hp
  unfold raw
  rw [if_pos (by simp), if_pos (by simp), if_pos (by simp; omega), if_pos (show pre3 _ = true from tc_start h1 hp.2 _)]
  rfl
end laws_toIntS
theorem toIntS_pre {xs : List Int} (h : wL w_Int xs ≤ 16777216) : laws_toIntS.pre xs = true := by
  have hl := wL_nn w_Int_nn xs
  simp only [laws_toIntS.pre, Bool.and_eq_true, small_iff]
  exact ⟨by omega, by simp⟩
def laws_szIntS (xs : List Int) (l : Int) : Int := szN (wL w_Int xs) l
namespace laws_szIntS
def pre (_ : List Int) (l : Int) : Bool := decide (0 ≤ l) && decide (l ≤ maxLen)
abbrev wf (x0 : (List Int)) (x1 : Int) : Prop := wfA [(.val (.sl 0 (.int .i64)) .f), (.val (.int .i64) .f)] (x0, (x1, ()))
noncomputable def raw (x0 : (List Int)) (x1 : Int) : Option zt22 :=
 if (decide ((IntKind.wrap .i64 (x1 - ((List.length x0 : Nat) : Int))) < (0 : Int))) = true then
  some ((), ((-1 : Int), ()))
 else
  some ((), ((IntKind.wrap .i64 (x1 - ((List.length x0 : Nat) : Int))), ()))
theorem eq (x0 : List Int) (x1 : Int) (hw : wf x0 x1) (hp : pre x0 x1 = true) : raw x0 x1 = some ((), (laws_szIntS x0 x1, ())) := by
  have h1 : x0.length ≤ maxLen := hw.1.1
  simp only [pre, Bool.and_eq_true, decide_eq_true_eq] at hp
  have hM := maxLen_eq
  have hnn := sumW_nn w_Int_nn x0
  unfold raw
  rw [w64 (n := x1 - (x0.length : Int)) (by omega) (by omega)]
  by_cases c : x1 - (x0.length : Int) < 0
  · rw [if_pos (decide_eq_true c), show laws_szIntS x0 x1 = -1 from szN_neg (by simp only [wL]; omega)]
  · have hz : sumW w_Int x0 = 0 := sumW_zero (fun _ => rfl) x0
    rw [if_neg (by rw [decide_eq_true_eq]; exact c), show laws_szIntS x0 x1 = x1 - (x0.length : Int) from by rw [laws_szIntS, szN_pos (by simp only [wL]; omega)]; simp only [wL]; omega]
end laws_szIntS
def laws_markIntS (xs : List Int) (k : Int) : List Int × Int := (mkL mk_Int cnt_Int xs k, k + cntL cnt_Int xs)
namespace laws_markIntS
def pre (xs : List Int) (k : Int) : Bool := mPre cnt_Int xs k
def pre2 := mkPre cnt_Int
def fn2 := mkFn mk_Int cnt_Int
def mu2 := mkMu (α := Int)
noncomputable def raw2 (x1 : Int) (x2 : Int) (x3 : (List Int)) : Option ((Int × (Int × zt31)) ⊕ (Int × zt31)) :=
 if (decide (x2 < ((List.length x3 : Nat) : Int))) = true then
  if (decide ((0 : Int) ≤ x2)) = true then
   if (decide (x2 < ((List.length x3 : Nat) : Int))) = true then
    some (.inl ((IntKind.wrap .i64 (x1 + (1 : Int))), ((IntKind.wrap .i64 (x2 + (1 : Int))), ((List.modify x3 (Int.toNat x2) (fun z => x1)), ()))))
   else
    none
  else
   none
 else
  some (.inr (x1, (x3, ())))
abbrev wf (x0 : (List Int)) (x1 : Int) : Prop := wfA [(.mut (.sl 0 (.int .i64))), (.val (.int .i64) .f)] (x0, (x1, ()))
noncomputable def raw (x0 : (List Int)) (x1 : Int) : Option (zt31 × (Int × Unit)) :=
 if (laws_markIntS.pre2 (x1, ((0 : Int), (x0, ())))) = true then
  letB (laws_markIntS.fn2 (x1, ((0 : Int), (x0, ())))) fun v1 =>
  some (v1.2, (v1.1, ()))
 else
  none
theorem ok2 (x1 x2 : Int) (x3 : List Int) (hp : pre2 (x1, (x2, (x3, ()))) = true) : Rounds pre2 mu2 fn2 (x1, (x2, (x3, ()))) (raw2 x1 x2 x3) := by
  unfold raw2
  by_cases hlt : x2 < (x3.length : Int)
  · obtain ⟨h0, hk, hc, hn⟩ := mk_facts mk_Int_ok hp hlt (0 : Int)
    generalize he : x3.getD x2.toNat (0 : Int) = e at hc
    simp only [cnt_Int] at hc
    have w0 : IntKind.wrap .i64 (x1 + 1) = x1 + 1 := w64 (by omega) (by omega)
    simp only [letB, List.length_modify, List.modify_modify_eq, getD_modify hn, Function.comp, hlt, h0, he, decide_true, if_true, w0]
    exact mk_step mk_Int_ok hp hlt (0 : Int) (by rw [he]; simp only [cnt_Int]) (by rw [he]; rfl)
  · rw [if_neg (by simp [hlt])]; exact mk_end hp hlt
theorem eq (x0 : List Int) (x1 : Int) (_ : wf x0 x1) (hp : pre x0 x1 = true) : raw x0 x1 = some (((laws_markIntS x0 x1).1, ()), ((laws_markIntS x0 x1).2, ())) := by
  unfold raw
  rw [if_pos (show pre2 _ = true from mk_start mk_Int_ok hp)]
  rfl
end laws_markIntS
theorem markIntS_eq (xs : List Int) (k : Int) : laws_markIntS xs k = (mkL mk_Int cnt_Int xs k, k + cntL cnt_Int xs) := rfl
theorem markIntS_pre {xs : List Int} {k : Int} (h0 : 0 ≤ k) (h1 : k + cntL cnt_Int xs ≤ 134217728) : laws_markIntS.pre xs k = true := mPre_iff.2 ⟨h0, h1⟩
noncomputable def laws_heldIntS (xs : List Int) (k : Int) : Int := heldN (mkL mk_Int cnt_Int) (cntL cnt_Int) xs k
namespace laws_heldIntS
def pre (xs : List Int) (k : Int) : Bool := mPre cnt_Int xs k
def pre2 := hePre cnt_Int
noncomputable def fn2 := heFn mk_Int cnt_Int
def mu2 := heMu (α := Int)
noncomputable def raw2 (x1 : (List Int)) (x2 : Int) (x3 : Int) : Option (((List Int) × Mark) ⊕ ((Int × Unit) ⊕ (Int × Unit))) :=
 if (decide (x3 < ((List.length x1 : Nat) : Int))) = true then
  if (decide ((0 : Int) ≤ x3)) = true then
   if (decide (x3 < ((List.length x1 : Nat) : Int))) = true then
    if (!(decide ((List.getD x1 (Int.toNat x3) (0 : Int)) = x2))) = true then
     some (.inr (.inl ((-1 : Int), ())))
    else
     some (.inl (x1, ((IntKind.wrap .i64 (x2 + (1 : Int))), ((IntKind.wrap .i64 (x3 + (1 : Int))), ()))))
   else
    none
  else
   none
 else
  some (.inr (.inr (x2, ())))
abbrev wf (x0 : (List Int)) (x1 : Int) : Prop := wfA [(.val (.sl 0 (.int .i64)) .f), (.val (.int .i64) .f)] (x0, (x1, ()))
noncomputable def raw (x0 : (List Int)) (x1 : Int) : Option zt22 :=
 if (laws_heldIntS.pre2 (x0, (x1, ((0 : Int), ())))) = true then
  letB (laws_heldIntS.fn2 (x0, (x1, ((0 : Int), ())))) fun v1 =>
  match v1 with
  | .inl y =>
   some ((), y)
  | .inr y =>
   some ((), y)
 else
  none
theorem ok2 (x1 : List Int) (x2 x3 : Int) (hp : pre2 (x1, (x2, (x3, ()))) = true) : Rounds pre2 mu2 fn2 (x1, (x2, (x3, ()))) (raw2 x1 x2 x3) := by
  unfold raw2
  by_cases hlt : x3 < (x1.length : Int)
  · obtain ⟨h0, hk, hc⟩ := he_facts mk_Int_ok hp hlt (0 : Int)
    have bad := he_bad (m := mk_Int) (g := cnt_Int) hp hlt (0 : Int)
    have good := fun K hK => he_good mk_Int_ok (K := K) hp hlt (0 : Int) hK
    generalize x1.getD x3.toNat (0 : Int) = e at *
    simp only [cnt_Int] at hc
    have w0 : IntKind.wrap .i64 (x2 + 1) = x2 + 1 := w64 (by omega) (by omega)
    simp only [letB, hlt, h0, decide_true, if_true, w0]
    by_cases c : e = x2
    case neg => rw [if_pos (by simp [c])]; exact bad c
    rw [if_neg (by simp [c])]
    exact good _ (by simp only [cnt_Int]) c
  · rw [if_neg (by simp [hlt])]; exact he_end hp hlt
theorem eq (x0 : List Int) (x1 : Int) (_ : wf x0 x1) (hp : pre x0 x1 = true) : raw x0 x1 = some ((), (laws_heldIntS x0 x1, ())) := by
  unfold raw
  rw [if_pos (show pre2 _ = true from he_start mk_Int_ok hp)]
  exact heFn_start x0 x1
end laws_heldIntS
theorem heldIntS_pos {xs : List Int} {k : Int} (h : xs = mkL mk_Int cnt_Int xs k) : laws_heldIntS xs k = k + cntL cnt_Int xs := heldN_pos h
theorem heldIntS_neg {xs : List Int} {k : Int} (h : ¬ xs = mkL mk_Int cnt_Int xs k) : laws_heldIntS xs k = -1 := heldN_neg h
theorem heldIntS_pre {xs : List Int} {k : Int} (h0 : 0 ≤ k) (h1 : k + cntL cnt_Int xs ≤ 134217728) : laws_heldIntS.pre xs k = true := mPre_iff.2 ⟨h0, h1⟩
noncomputable def laws_eqByteS (a b : List Int) : Bool := same a b
namespace laws_eqByteS
def pre4 := eqPre (α := Int)
noncomputable def fn4 := eqFn (α := Int)
def mu4 := eqMu (α := Int)
noncomputable def raw4 (x1 : (List Int)) (x2 : (List Int)) (x3 : Int) : Option (((List Int) × Disk) ⊕ ((Bool × Unit) ⊕ Unit)) :=
 if (decide (x3 < ((List.length x1 : Nat) : Int))) = true then
  if (decide ((0 : Int) ≤ x3)) = true then
   if (decide (x3 < ((List.length x1 : Nat) : Int))) = true then
    if (decide ((0 : Int) ≤ x3)) = true then
     if (decide (x3 < ((List.length x2 : Nat) : Int))) = true then
      if (!(decide ((List.getD x1 (Int.toNat x3) (0 : Int)) = (List.getD x2 (Int.toNat x3) (0 : Int))))) = true then
       some (.inr (.inl (false, ())))
      else
       some (.inl (x1, (x2, ((IntKind.wrap .i64 (x3 + (1 : Int))), ()))))
     else
      none
    else
     none
   else
    none
  else
   none
 else
  some (.inr (.inr ()))
abbrev wf (x0 : (List Int)) (x1 : (List Int)) : Prop := wfA [(.val (.sl 0 (.int .u8)) .f), (.val (.sl 0 (.int .u8)) .f)] (x0, (x1, ()))
noncomputable def raw (x0 : (List Int)) (x1 : (List Int)) : Option zt25 :=
 if (!(decide (((List.length x0 : Nat) : Int) = ((List.length x1 : Nat) : Int)))) = true then
  some ((), (false, ()))
 else
  if (laws_eqByteS.pre4 (x0, (x1, ((0 : Int), ())))) = true then
   letB (laws_eqByteS.fn4 (x0, (x1, ((0 : Int), ())))) fun v1 =>
   match v1 with
   | .inl y =>
    some ((), y)
   | .inr y =>
    some ((), (true, ()))
  else
   none
theorem ok4 (x1 x2 : List Int) (x3 : Int) (hp : pre4 (x1, (x2, (x3, ()))) = true) : Rounds pre4 mu4 fn4 (x1, (x2, (x3, ()))) (raw4 x1 x2 x3) := by
  unfold raw4
  by_cases hlt : x3 < (x1.length : Int)
  · obtain ⟨h1, h2, h3, h4⟩ := eq_next hp hlt (0 : Int)
    simp only [letB, hlt, h1, h2, decide_true, if_true]
    by_cases h : x1.getD x3.toNat (0 : Int) = x2.getD x3.toNat (0 : Int)
    · rw [if_neg (by simp only [h, decide_true, Bool.not_true, Bool.false_eq_true, not_false_eq_true])]; exact h3 h
    · rw [if_pos (by simp only [h, decide_false, Bool.not_false])]; exact h4 h
  · simp only [hlt, decide_false, Bool.false_eq_true, if_false]
    exact eq_end hp hlt
theorem eq (x0 x1 : List Int) (hw : wf x0 x1) : raw x0 x1 = some ((), (laws_eqByteS x0 x1, ())) := by
  have h1 : x0.length ≤ maxLen := hw.1.1
  unfold raw laws_eqByteS
  by_cases hl : (x0.length : Int) = (x1.length : Int)
  · rw [if_neg (by simp [hl]), if_pos (show pre4 _ = true from eq_start h1 hl)]
    unfold fn4
    by_cases he : x0 = x1
    · rw [eqFn_eq he, same_true.2 he]; rfl
    · rw [eqFn_ne he, same_false.2 he]; rfl
  · have : ¬ x0 = x1 := fun h => hl (by rw [h])
    rw [if_pos (by simp [hl]), same_false.2 this]
end laws_eqByteS
def laws_toByteS (xs : List Int) : List Int := xs
namespace laws_toByteS
def pre (xs : List Int) : Bool := small xs && xs.all (fun _ => true)
noncomputable def pre3 := tcPreB (α := Int) (fun _ => true)
def fn3 := toFn (α := Int)
def mu3 := toMu (α := Int)
noncomputable def raw3 (x1 : (List Int)) (x2 : Int) (x3 : (List Int)) : Option (((List Int) × (Int × zt31)) ⊕ zt31) :=
 if (decide (x2 < ((List.length x1 : Nat) : Int))) = true then
  if (decide ((0 : Int) ≤ x2)) = true then
   if (decide (x2 < ((List.length x1 : Nat) : Int))) = true then
    if (decide ((0 : Int) ≤ x2)) = true then
     if (decide (x2 < ((List.length x3 : Nat) : Int))) = true then
      some (.inl (x1, ((IntKind.wrap .i64 (x2 + (1 : Int))), ((List.modify x3 (Int.toNat x2) (fun z => (List.getD x1 (Int.toNat x2) (0 : Int)))), ()))))
     else
      none
    else
     none
   else
    none
  else
   none
 else
  some (.inr (x3, ()))
abbrev wf (x0 : (List Int)) : Prop := wfA [(.val (.sl 0 (.int .u8)) .f)] (x0, ())
noncomputable def raw (x0 : (List Int)) : Option (Unit × zt31) :=
 if (decide ((0 : Int) ≤ ((List.length x0 : Nat) : Int))) = true then
  if (decide (((List.length x0 : Nat) : Int) ≤ ((List.length x0 : Nat) : Int))) = true then
   if (decide (((List.length x0 : Nat) : Int) ≤ (4294967296 : Int))) = true then
    if (laws_toByteS.pre3 (x0, ((0 : Int), ((List.replicate (Int.toNat ((List.length x0 : Nat) : Int)) (0 : Int)), ())))) = true then
     letB (laws_toByteS.fn3 (x0, ((0 : Int), ((List.replicate (Int.toNat ((List.length x0 : Nat) : Int)) (0 : Int)), ())))) fun v1 =>
     some ((), v1)
    else
     none
   else
    none
  else
   none
 else
  none
theorem ok3 (x1 : List Int) (x2 : Int) (x3 : List Int) (hp : pre3 (x1, (x2, (x3, ()))) = true) : Rounds pre3 mu3 fn3 (x1, (x2, (x3, ()))) (raw3 x1 x2 x3) := by
  unfold raw3
  by_cases hlt : x2 < (x1.length : Int)
  · obtain ⟨h1, h2, h3⟩ := tc_facts hp hlt (0 : Int)
    simp only [letB, hlt, h1, h2, h3, decide_true, if_true]
    exact tc_step hp hlt (0 : Int) rfl
  · rw [if_neg (by simp [hlt])]; exact tc_end hp hlt
theorem eq (x0 : List Int) (hw : wf x0) (hp : pre x0 = true) : raw x0 = some ((), (laws_toByteS x0, ())) := by
  have h1 : x0.length ≤ maxLen := hw.1.1
  simp only [pre, Bool.and_eq_true, small_iff] at hp
  unfold raw
  rw [if_pos (by simp), if_pos (by simp), if_pos (by simp; omega), if_pos (show pre3 _ = true from tc_start h1 hp.2 _)]
  rfl
end laws_toByteS
theorem toByteS_pre {xs : List Int} (h : wL w_Byte xs ≤ 16777216) : laws_toByteS.pre xs = true := by
  have hl := wL_nn w_Byte_nn xs
  simp only [laws_toByteS.pre, Bool.and_eq_true, small_iff]
  exact ⟨by omega, by simp⟩
def laws_szByteS (xs : List Int) (l : Int) : Int := szN (wL w_Byte xs) l
namespace laws_szByteS
def pre (_ : List Int) (l : Int) : Bool := decide (0 ≤ l) && decide (l ≤ maxLen)
abbrev wf (x0 : (List Int)) (x1 : Int) : Prop := wfA [(.val (.sl 0 (.int .u8)) .f), (.val (.int .i64) .f)] (x0, (x1, ()))
noncomputable def raw (x0 : (List Int)) (x1 : Int) : Option zt22 :=
 if (decide ((IntKind.wrap .i64 (x1 - ((List.length x0 : Nat) : Int))) < (0 : Int))) = true then
  some ((), ((-1 : Int), ()))
 else
  some ((), ((IntKind.wrap .i64 (x1 - ((List.length x0 : Nat) : Int))), ()))
theorem eq (x0 : List Int) (x1 : Int) (hw : wf x0 x1) (hp : pre x0 x1 = true) : raw x0 x1 = some ((), (laws_szByteS x0 x1, ())) := by
  have h1 : x0.length ≤ maxLen := hw.1.1
  simp only [pre, Bool.and_eq_true, decide_eq_true_eq] at hp
  have hM := maxLen_eq
  have hnn := sumW_nn w_Byte_nn x0
  unfold raw
  rw [w64 (n := x1 - (x0.length : Int)) (by omega) (by omega)]
  by_cases c : x1 - (x0.length : Int) < 0
  · rw [if_pos (decide_eq_true c), show laws_szByteS x0 x1 = -1 from szN_neg (by simp only [wL]; omega)]
  · have hz : sumW w_Byte x0 = 0 := sumW_zero (fun _ => rfl) x0
    rw [if_neg (by rw [decide_eq_true_eq]; exact c), show laws_szByteS x0 x1 = x1 - (x0.length : Int) from by rw [laws_szByteS, szN_pos (by simp only [wL]; omega)]; simp only [wL]; omega]
end laws_szByteS
def laws_markByteS (xs : List Int) (k : Int) : List Int × Int := (mkL mk_Byte cnt_Byte xs k, k + cntL cnt_Byte xs)
namespace laws_markByteS
def pre (xs : List Int) (k : Int) : Bool := mPre cnt_Byte xs k
def pre2 := mkPre cnt_Byte
def fn2 := mkFn mk_Byte cnt_Byte
def mu2 := mkMu (α := Int)
noncomputable def raw2 (x1 : Int) (x2 : Int) (x3 : (List Int)) : Option ((Int × (Int × zt31)) ⊕ (Int × zt31)) :=
 if (decide (x2 < ((List.length x3 : Nat) : Int))) = true then
  if (decide ((0 : Int) ≤ x2)) = true then
   if (decide (x2 < ((List.length x3 : Nat) : Int))) = true then
    some (.inl ((IntKind.wrap .i64 (x1 + (1 : Int))), ((IntKind.wrap .i64 (x2 + (1 : Int))), ((List.modify x3 (Int.toNat x2) (fun z => (IntKind.wrap .u8 x1))), ()))))
   else
    none
  else
   none
 else
  some (.inr (x1, (x3, ())))
abbrev wf (x0 : (List Int)) (x1 : Int) : Prop := wfA [(.mut (.sl 0 (.int .u8))), (.val (.int .i64) .f)] (x0, (x1, ()))
noncomputable def raw (x0 : (List Int)) (x1 : Int) : Option (zt31 × (Int × Unit)) :=
 if (laws_markByteS.pre2 (x1, ((0 : Int), (x0, ())))) = true then
  letB (laws_markByteS.fn2 (x1, ((0 : Int), (x0, ())))) fun v1 =>
  some (v1.2, (v1.1, ()))
 else
  none
theorem ok2 (x1 x2 : Int) (x3 : List Int) (hp : pre2 (x1, (x2, (x3, ()))) = true) : Rounds pre2 mu2 fn2 (x1, (x2, (x3, ()))) (raw2 x1 x2 x3) := by
  unfold raw2
  by_cases hlt : x2 < (x3.length : Int)
  · obtain ⟨h0, hk, hc, hn⟩ := mk_facts mk_Byte_ok hp hlt (0 : Int)
    generalize he : x3.getD x2.toNat (0 : Int) = e at hc
    simp only [cnt_Byte] at hc
    have w0 : IntKind.wrap .i64 (x1 + 1) = x1 + 1 := w64 (by omega) (by omega)
    simp only [letB, List.length_modify, List.modify_modify_eq, getD_modify hn, Function.comp, hlt, h0, he, decide_true, if_true, w0]
    exact mk_step mk_Byte_ok hp hlt (0 : Int) (by rw [he]; simp only [cnt_Byte]) (by rw [he]; rfl)
  · rw [if_neg (by simp [hlt])]; exact mk_end hp hlt
theorem eq (x0 : List Int) (x1 : Int) (_ : wf x0 x1) (hp : pre x0 x1 = true) : raw x0 x1 = some (((laws_markByteS x0 x1).1, ()), ((laws_markByteS x0 x1).2, ())) := by
  unfold raw
  rw [if_pos (show pre2 _ = true from mk_start mk_Byte_ok hp)]
  rfl
end laws_markByteS
theorem markByteS_eq (xs : List Int) (k : Int) : laws_markByteS xs k = (mkL mk_Byte cnt_Byte xs k, k + cntL cnt_Byte xs) := rfl
theorem markByteS_pre {xs : List Int} {k : Int} (h0 : 0 ≤ k) (h1 : k + cntL cnt_Byte xs ≤ 134217728) : laws_markByteS.pre xs k = true := mPre_iff.2 ⟨h0, h1⟩
noncomputable def laws_heldByteS (xs : List Int) (k : Int) : Int := heldN (mkL mk_Byte cnt_Byte) (cntL cnt_Byte) xs k
namespace laws_heldByteS
def pre (xs : List Int) (k : Int) : Bool := mPre cnt_Byte xs k
def pre2 := hePre cnt_Byte
noncomputable def fn2 := heFn mk_Byte cnt_Byte
def mu2 := heMu (α := Int)
noncomputable def raw2 (x1 : (List Int)) (x2 : Int) (x3 : Int) : Option (((List Int) × Mark) ⊕ ((Int × Unit) ⊕ (Int × Unit))) :=
 if (decide (x3 < ((List.length x1 : Nat) : Int))) = true then
  if (decide ((0 : Int) ≤ x3)) = true then
   if (decide (x3 < ((List.length x1 : Nat) : Int))) = true then
    if (!(decide ((List.getD x1 (Int.toNat x3) (0 : Int)) = (IntKind.wrap .u8 x2)))) = true then
     some (.inr (.inl ((-1 : Int), ())))
    else
     some (.inl (x1, ((IntKind.wrap .i64 (x2 + (1 : Int))), ((IntKind.wrap .i64 (x3 + (1 : Int))), ()))))
   else
    none
  else
   none
 else
  some (.inr (.inr (x2, ())))
abbrev wf (x0 : (List Int)) (x1 : Int) : Prop := wfA [(.val (.sl 0 (.int .u8)) .f), (.val (.int .i64) .f)] (x0, (x1, ()))
noncomputable def raw (x0 : (List Int)) (x1 : Int) : Option zt22 :=
 if (laws_heldByteS.pre2 (x0, (x1, ((0 : Int), ())))) = true then
  letB (laws_heldByteS.fn2 (x0, (x1, ((0 : Int), ())))) fun v1 =>
  match v1 with
  | .inl y =>
   some ((), y)
  | .inr y =>
   some ((), y)
 else
  none
theorem ok2 (x1 : List Int) (x2 x3 : Int) (hp : pre2 (x1, (x2, (x3, ()))) = true) : Rounds pre2 mu2 fn2 (x1, (x2, (x3, ()))) (raw2 x1 x2 x3) := by
  unfold raw2
  by_cases hlt : x3 < (x1.length : Int)
  · obtain ⟨h0, hk, hc⟩ := he_facts mk_Byte_ok hp hlt (0 : Int)
    have bad := he_bad (m := mk_Byte) (g := cnt_Byte) hp hlt (0 : Int)
    have good := fun K hK => he_good mk_Byte_ok (K := K) hp hlt (0 : Int) hK
    generalize x1.getD x3.toNat (0 : Int) = e at *
    simp only [cnt_Byte] at hc
    have w0 : IntKind.wrap .i64 (x2 + 1) = x2 + 1 := w64 (by omega) (by omega)
    simp only [letB, hlt, h0, decide_true, if_true, w0]
    by_cases c : e = IntKind.wrap .u8 x2
    case neg => rw [if_pos (by simp [c])]; exact bad c
    rw [if_neg (by simp [c])]
    exact good _ (by simp only [cnt_Byte]) c
  · rw [if_neg (by simp [hlt])]; exact he_end hp hlt
theorem eq (x0 : List Int) (x1 : Int) (_ : wf x0 x1) (hp : pre x0 x1 = true) : raw x0 x1 = some ((), (laws_heldByteS x0 x1, ())) := by
  unfold raw
  rw [if_pos (show pre2 _ = true from he_start mk_Byte_ok hp)]
  exact heFn_start x0 x1
end laws_heldByteS
theorem heldByteS_pos {xs : List Int} {k : Int} (h : xs = mkL mk_Byte cnt_Byte xs k) : laws_heldByteS xs k = k + cntL cnt_Byte xs := heldN_pos h
theorem heldByteS_neg {xs : List Int} {k : Int} (h : ¬ xs = mkL mk_Byte cnt_Byte xs k) : laws_heldByteS xs k = -1 := heldN_neg h
theorem heldByteS_pre {xs : List Int} {k : Int} (h0 : 0 ≤ k) (h1 : k + cntL cnt_Byte xs ≤ 134217728) : laws_heldByteS.pre xs k = true := mPre_iff.2 ⟨h0, h1⟩
noncomputable def laws_eqBoolS (a b : List Bool) : Bool := same a b
namespace laws_eqBoolS
def pre4 := eqPre (α := Bool)
noncomputable def fn4 := eqFn (α := Bool)
def mu4 := eqMu (α := Bool)
noncomputable def raw4 (x1 : (List Bool)) (x2 : (List Bool)) (x3 : Int) : Option (((List Bool) × ((List Bool) × (Int × Unit))) ⊕ ((Bool × Unit) ⊕ Unit)) :=
 if (decide (x3 < ((List.length x1 : Nat) : Int))) = true then
  if (decide ((0 : Int) ≤ x3)) = true then
   if (decide (x3 < ((List.length x1 : Nat) : Int))) = true then
    if (decide ((0 : Int) ≤ x3)) = true then
     if (decide (x3 < ((List.length x2 : Nat) : Int))) = true then
      if (!((List.getD x1 (Int.toNat x3) false) == (List.getD x2 (Int.toNat x3) false))) = true then
       some (.inr (.inl (false, ())))
      else
       some (.inl (x1, (x2, ((IntKind.wrap .i64 (x3 + (1 : Int))), ()))))
     else
      none
    else
     none
   else
    none
  else
   none
 else
  some (.inr (.inr ()))
abbrev wf (x0 : (List Bool)) (x1 : (List Bool)) : Prop := wfA [(.val (.sl 0 .bool) .f), (.val (.sl 0 .bool) .f)] (x0, (x1, ()))
noncomputable def raw (x0 : (List Bool)) (x1 : (List Bool)) : Option zt25 :=
 if (!(decide (((List.length x0 : Nat) : Int) = ((List.length x1 : Nat) : Int)))) = true then
  some ((), (false, ()))
 else
  if (laws_eqBoolS.pre4 (x0, (x1, ((0 : Int), ())))) = true then
   letB (laws_eqBoolS.fn4 (x0, (x1, ((0 : Int), ())))) fun v1 =>
   match v1 with
   | .inl y =>
    some ((), y)
   | .inr y =>
    some ((), (true, ()))
  else
   none
theorem ok4 (x1 x2 : List Bool) (x3 : Int) (hp : pre4 (x1, (x2, (x3, ()))) = true) : Rounds pre4 mu4 fn4 (x1, (x2, (x3, ()))) (raw4 x1 x2 x3) := by
  unfold raw4
  by_cases hlt : x3 < (x1.length : Int)
  · obtain ⟨h1, h2, h3, h4⟩ := eq_next hp hlt false
    simp only [letB, hlt, h1, h2, decide_true, if_true]
    by_cases h : x1.getD x3.toNat false = x2.getD x3.toNat false
    · rw [if_neg (by rw [h]; simp)]; exact h3 h
    · rw [if_pos (by rw [beq_false_of_ne h]; rfl)]; exact h4 h
  · simp only [hlt, decide_false, Bool.false_eq_true, if_false]
    exact eq_end hp hlt
theorem eq (x0 x1 : List Bool) (hw : wf x0 x1) : raw x0 x1 = some ((), (laws_eqBoolS x0 x1, ())) := by
  have h1 : x0.length ≤ maxLen := hw.1.1
  unfold raw laws_eqBoolS
  by_cases hl : (x0.length : Int) = (x1.length : Int)
  · rw [if_neg (by simp [hl]), if_pos (show pre4 _ = true from eq_start h1 hl)]
    unfold fn4
    by_cases he : x0 = x1
    · rw [eqFn_eq he, same_true.2 he]; rfl
    · rw [eqFn_ne he, same_false.2 he]; rfl
  · have : ¬ x0 = x1 := fun h => hl (by rw [h])
    rw [if_pos (by simp [hl]), same_false.2 this]
end laws_eqBoolS
def laws_toBoolS (xs : List Bool) : List Bool := xs
namespace laws_toBoolS
def pre (xs : List Bool) : Bool := small xs && xs.all (fun _ => true)
noncomputable def pre3 := tcPreB (α := Bool) (fun _ => true)
def fn3 := toFn (α := Bool)
def mu3 := toMu (α := Bool)
noncomputable def raw3 (x1 : (List Bool)) (x2 : Int) (x3 : (List Bool)) : Option (((List Bool) × (Int × ((List Bool) × Unit))) ⊕ ((List Bool) × Unit)) :=
 if (decide (x2 < ((List.length x1 : Nat) : Int))) = true then
  if (decide ((0 : Int) ≤ x2)) = true then
   if (decide (x2 < ((List.length x1 : Nat) : Int))) = true then
    if (decide ((0 : Int) ≤ x2)) = true then
     if (decide (x2 < ((List.length x3 : Nat) : Int))) = true then
      some (.inl (x1, ((IntKind.wrap .i64 (x2 + (1 : Int))), ((List.modify x3 (Int.toNat x2) (fun z => (List.getD x1 (Int.toNat x2) false))), ()))))
     else
      none
    else
     none
   else
    none
  else
   none
 else
  some (.inr (x3, ()))
abbrev wf (x0 : (List Bool)) : Prop := wfA [(.val (.sl 0 .bool) .f)] (x0, ())
noncomputable def raw (x0 : (List Bool)) : Option (Unit × ((List Bool) × Unit)) :=
 if (decide ((0 : Int) ≤ ((List.length x0 : Nat) : Int))) = true then
  if (decide (((List.length x0 : Nat) : Int) ≤ ((List.length x0 : Nat) : Int))) = true then
   if (decide (((List.length x0 : Nat) : Int) ≤ (4294967296 : Int))) = true then
    if (laws_toBoolS.pre3 (x0, ((0 : Int), ((List.replicate (Int.toNat ((List.length x0 : Nat) : Int)) false), ())))) = true then
     letB (laws_toBoolS.fn3 (x0, ((0 : Int), ((List.replicate (Int.toNat ((List.length x0 : Nat) : Int)) false), ())))) fun v1 =>
     some ((), v1)
    else
     none
   else
    none
  else
   none
 else
  none
theorem ok3 (x1 : List Bool) (x2 : Int) (x3 : List Bool) (hp : pre3 (x1, (x2, (x3, ()))) = true) : Rounds pre3 mu3 fn3 (x1, (x2, (x3, ()))) (raw3 x1 x2 x3) := by
  unfold raw3
  by_cases hlt : x2 < (x1.length : Int)
  · obtain ⟨h1, h2, h3⟩ := tc_facts hp hlt false
    simp only [letB, hlt, h1, h2, h3, decide_true, if_true]
    exact tc_step hp hlt false rfl
  · rw [if_neg (by simp [hlt])]; exact tc_end hp hlt
theorem eq (x0 : List Bool) (hw : wf x0) (hp : pre x0 = true) : raw x0 = some ((), (laws_toBoolS x0, ())) := by
  have h1 : x0.length ≤ maxLen := hw.1.1
  simp only [pre, Bool.and_eq_true, small_iff] at hp
  unfold raw
  rw [if_pos (by simp), if_pos (by simp), if_pos (by simp; omega), if_pos (show pre3 _ = true from tc_start h1 hp.2 _)]
  rfl
end laws_toBoolS
theorem toBoolS_pre {xs : List Bool} (h : wL w_Bool xs ≤ 16777216) : laws_toBoolS.pre xs = true := by
  have hl := wL_nn w_Bool_nn xs
  simp only [laws_toBoolS.pre, Bool.and_eq_true, small_iff]
  exact ⟨by omega, by simp⟩
def laws_szBoolS (xs : List Bool) (l : Int) : Int := szN (wL w_Bool xs) l
namespace laws_szBoolS
def pre (_ : List Bool) (l : Int) : Bool := decide (0 ≤ l) && decide (l ≤ maxLen)
abbrev wf (x0 : (List Bool)) (x1 : Int) : Prop := wfA [(.val (.sl 0 .bool) .f), (.val (.int .i64) .f)] (x0, (x1, ()))
noncomputable def raw (x0 : (List Bool)) (x1 : Int) : Option zt22 :=
 if (decide ((IntKind.wrap .i64 (x1 - ((List.length x0 : Nat) : Int))) < (0 : Int))) = true then
  some ((), ((-1 : Int), ()))
 else
  some ((), ((IntKind.wrap .i64 (x1 - ((List.length x0 : Nat) : Int))), ()))
theorem eq (x0 : List Bool) (x1 : Int) (hw : wf x0 x1) (hp : pre x0 x1 = true) : raw x0 x1 = some ((), (laws_szBoolS x0 x1, ())) := by
  have h1 : x0.length ≤ maxLen := hw.1.1
  simp only [pre, Bool.and_eq_true, decide_eq_true_eq] at hp
  have hM := maxLen_eq
  have hnn := sumW_nn w_Bool_nn x0
  unfold raw
  rw [w64 (n := x1 - (x0.length : Int)) (by omega) (by omega)]
  by_cases c : x1 - (x0.length : Int) < 0
  · rw [if_pos (decide_eq_true c), show laws_szBoolS x0 x1 = -1 from szN_neg (by simp only [wL]; omega)]
  · have hz : sumW w_Bool x0 = 0 := sumW_zero (fun _ => rfl) x0
    rw [if_neg (by rw [decide_eq_true_eq]; exact c), show laws_szBoolS x0 x1 = x1 - (x0.length : Int) from by rw [laws_szBoolS, szN_pos (by simp only [wL]; omega)]; simp only [wL]; omega]
end laws_szBoolS
def laws_markBoolS (xs : List Bool) (k : Int) : List Bool × Int := (mkL mk_Bool cnt_Bool xs k, k + cntL cnt_Bool xs)
namespace laws_markBoolS
def pre (xs : List Bool) (k : Int) : Bool := mPre cnt_Bool xs k
def pre2 := mkPre cnt_Bool
def fn2 := mkFn mk_Bool cnt_Bool
def mu2 := mkMu (α := Bool)
noncomputable def raw2 (x1 : Int) (x2 : Int) (x3 : (List Bool)) : Option ((Int × (Int × ((List Bool) × Unit))) ⊕ (Int × ((List Bool) × Unit))) :=
 if (decide (x2 < ((List.length x3 : Nat) : Int))) = true then
  if (!(decide ((3 : Int) = (0 : Int)))) = true then
   if (decide ((0 : Int) ≤ x2)) = true then
    if (decide (x2 < ((List.length x3 : Nat) : Int))) = true then
     some (.inl ((IntKind.wrap .i64 (x1 + (1 : Int))), ((IntKind.wrap .i64 (x2 + (1 : Int))), ((List.modify x3 (Int.toNat x2) (fun z => (decide ((Int.tmod x1 (3 : Int)) = (0 : Int))))), ()))))
    else
     none
   else
    none
  else
   none
 else
  some (.inr (x1, (x3, ())))
abbrev wf (x0 : (List Bool)) (x1 : Int) : Prop := wfA [(.mut (.sl 0 .bool)), (.val (.int .i64) .f)] (x0, (x1, ()))
noncomputable def raw (x0 : (List Bool)) (x1 : Int) : Option (((List Bool) × Unit) × (Int × Unit)) :=
 if (laws_markBoolS.pre2 (x1, ((0 : Int), (x0, ())))) = true then
  letB (laws_markBoolS.fn2 (x1, ((0 : Int), (x0, ())))) fun v1 =>
  some (v1.2, (v1.1, ()))
 else
  none
theorem ok2 (x1 x2 : Int) (x3 : List Bool) (hp : pre2 (x1, (x2, (x3, ()))) = true) : Rounds pre2 mu2 fn2 (x1, (x2, (x3, ()))) (raw2 x1 x2 x3) := by
  unfold raw2
  by_cases hlt : x2 < (x3.length : Int)
  · obtain ⟨h0, hk, hc, hn⟩ := mk_facts mk_Bool_ok hp hlt false
    generalize he : x3.getD x2.toNat false = e at hc
    simp only [cnt_Bool] at hc
    have w0 : IntKind.wrap .i64 (x1 + 1) = x1 + 1 := w64 (by omega) (by omega)
    simp only [letB, List.length_modify, List.modify_modify_eq, getD_modify hn, Function.comp, hlt, h0, he, decide_true, if_true, w0]
    exact mk_step mk_Bool_ok hp hlt false (by rw [he]; simp only [cnt_Bool]) (by rw [he]; rfl)
  · rw [if_neg (by simp [hlt])]; exact mk_end hp hlt
theorem eq (x0 : List Bool) (x1 : Int) (_ : wf x0 x1) (hp : pre x0 x1 = true) : raw x0 x1 = some (((laws_markBoolS x0 x1).1, ()), ((laws_markBoolS x0 x1).2, ())) := by
  unfold raw
  rw [if_pos (show pre2 _ = true from mk_start mk_Bool_ok hp)]
  rfl
end laws_markBoolS
theorem markBoolS_eq (xs : List Bool) (k : Int) : laws_markBoolS xs k = (mkL mk_Bool cnt_Bool xs k, k + cntL cnt_Bool xs) := rfl
theorem markBoolS_pre {xs : List Bool} {k : Int} (h0 : 0 ≤ k) (h1 : k + cntL cnt_Bool xs ≤ 134217728) : laws_markBoolS.pre xs k = true := mPre_iff.2 ⟨h0, h1⟩
noncomputable def laws_heldBoolS (xs : List Bool) (k : Int) : Int := heldN (mkL mk_Bool cnt_Bool) (cntL cnt_Bool) xs k
namespace laws_heldBoolS
def pre (xs : List Bool) (k : Int) : Bool := mPre cnt_Bool xs k
def pre2 := hePre cnt_Bool
noncomputable def fn2 := heFn mk_Bool cnt_Bool
def mu2 := heMu (α := Bool)
noncomputable def raw2 (x1 : (List Bool)) (x2 : Int) (x3 : Int) : Option (((List Bool) × Mark) ⊕ ((Int × Unit) ⊕ (Int × Unit))) :=
 if (decide (x3 < ((List.length x1 : Nat) : Int))) = true then
  if (decide ((0 : Int) ≤ x3)) = true then
   if (decide (x3 < ((List.length x1 : Nat) : Int))) = true then
    if (!(decide ((3 : Int) = (0 : Int)))) = true then
     if (!((List.getD x1 (Int.toNat x3) false) == (decide ((Int.tmod x2 (3 : Int)) = (0 : Int))))) = true then
      some (.inr (.inl ((-1 : Int), ())))
     else
      some (.inl (x1, ((IntKind.wrap .i64 (x2 + (1 : Int))), ((IntKind.wrap .i64 (x3 + (1 : Int))), ()))))
    else
     none
   else
    none
  else
   none
 else
  some (.inr (.inr (x2, ())))
abbrev wf (x0 : (List Bool)) (x1 : Int) : Prop := wfA [(.val (.sl 0 .bool) .f), (.val (.int .i64) .f)] (x0, (x1, ()))
noncomputable def raw (x0 : (List Bool)) (x1 : Int) : Option zt22 :=
 if (laws_heldBoolS.pre2 (x0, (x1, ((0 : Int), ())))) = true then
  letB (laws_heldBoolS.fn2 (x0, (x1, ((0 : Int), ())))) fun v1 =>
  match v1 with
  | .inl y =>
   some ((), y)
  | .inr y =>
   some ((), y)
 else
  none
theorem ok2 (x1 : List Bool) (x2 x3 : Int) (hp : pre2 (x1, (x2, (x3, ()))) = true) : Rounds pre2 mu2 fn2 (x1, (x2, (x3, ()))) (raw2 x1 x2 x3) := by
  unfold raw2
  by_cases hlt : x3 < (x1.length : Int)
  · obtain ⟨h0, hk, hc⟩ := he_facts mk_Bool_ok hp hlt false
    have bad := he_bad (m := mk_Bool) (g := cnt_Bool) hp hlt false
    have good := fun K hK => he_good mk_Bool_ok (K := K) hp hlt false hK
    generalize x1.getD x3.toNat false = e at *
    simp only [cnt_Bool] at hc
    have w0 : IntKind.wrap .i64 (x2 + 1) = x2 + 1 := w64 (by omega) (by omega)
    simp only [letB, hlt, h0, decide_true, if_true, w0]
    rw [if_pos (show (!decide ((3 : Int) = 0)) = true from rfl)]
    by_cases c : e = decide (Int.tmod x2 3 = 0)
    case neg => rw [if_pos (by rw [beq_false_of_ne c]; rfl)]; exact bad c
    rw [if_neg (by rw [c, beq_self_eq_true]; decide)]
    exact good _ (by simp only [cnt_Bool]) c
  · rw [if_neg (by simp [hlt])]; exact he_end hp hlt
theorem eq (x0 : List Bool) (x1 : Int) (_ : wf x0 x1) (hp : pre x0 x1 = true) : raw x0 x1 = some ((), (laws_heldBoolS x0 x1, ())) := by
  unfold raw
  rw [if_pos (show pre2 _ = true from he_start mk_Bool_ok hp)]
  exact heFn_start x0 x1
end laws_heldBoolS
theorem heldBoolS_pos {xs : List Bool} {k : Int} (h : xs = mkL mk_Bool cnt_Bool xs k) : laws_heldBoolS xs k = k + cntL cnt_Bool xs := heldN_pos h
theorem heldBoolS_neg {xs : List Bool} {k : Int} (h : ¬ xs = mkL mk_Bool cnt_Bool xs k) : laws_heldBoolS xs k = -1 := heldN_neg h
theorem heldBoolS_pre {xs : List Bool} {k : Int} (h0 : 0 ≤ k) (h1 : k + cntL cnt_Bool xs ≤ 134217728) : laws_heldBoolS.pre xs k = true := mPre_iff.2 ⟨h0, h1⟩
def w_Cmd (x : Cmd) : Int := (x.2.2.2.2.2.2.1.length : Int) + (x.2.2.2.2.2.2.2.1.length : Int)
theorem w_Cmd_nn (x : Cmd) : 0 ≤ w_Cmd x := by
  simp only [w_Cmd]; omega
noncomputable def laws_eqCmd (a b : Cmd) : Bool := same a b
namespace laws_eqCmd
abbrev wf (x0 : Cmd) (x1 : Cmd) : Prop := wfA [(.val zk30 .f), (.val zk30 .f)] (x0, (x1, ()))
noncomputable def raw (x0 : Cmd) (x1 : Cmd) : Option zt25 :=
 if (!(decide (x0.1 = x1.1))) = true then
  some ((), (false, ()))
 else
  if (!(decide (x0.2.1 = x1.2.1))) = true then
   some ((), (false, ()))
  else
   if (!(decide (x0.2.2.1 = x1.2.2.1))) = true then
    some ((), (false, ()))
   else
    if (!(decide (x0.2.2.2.1 = x1.2.2.2.1))) = true then
     some ((), (false, ()))
    else
     if (!(decide (x0.2.2.2.2.1 = x1.2.2.2.2.1))) = true then
      some ((), (false, ()))
     else
      if (!(decide (x0.2.2.2.2.2.1 = x1.2.2.2.2.2.1))) = true then
       some ((), (false, ()))
      else
       if (!(x0.2.2.2.2.2.2.1 == x1.2.2.2.2.2.2.1)) = true then
        some ((), (false, ()))
       else
        if (!(x0.2.2.2.2.2.2.2.1 == x1.2.2.2.2.2.2.2.1)) = true then
         some ((), (false, ()))
        else
         some ((), (true, ()))
theorem eq (x0 x1 : Cmd) (_ : wf x0 x1) : raw x0 x1 = some ((), (laws_eqCmd x0 x1, ())) := by
  unfold raw laws_eqCmd
  try simp only [letB]
  by_cases c0 : x0.1 = x1.1
  case neg => rw [if_pos (by simp [c0]), same_false.2 (fun h => c0 (congrArg (fun z : Cmd => z.1) h))]
  rw [if_neg (by simp [c0])]
  by_cases c1 : x0.2.1 = x1.2.1
  case neg => rw [if_pos (by simp [c1]), same_false.2 (fun h => c1 (congrArg (fun z : Cmd => z.2.1) h))]
  rw [if_neg (by simp [c1])]
  by_cases c2 : x0.2.2.1 = x1.2.2.1
  case neg => rw [if_pos (by simp [c2]), same_false.2 (fun h => c2 (congrArg (fun z : Cmd => z.2.2.1) h))]
  rw [if_neg (by simp [c2])]
  by_cases c3 : x0.2.2.2.1 = x1.2.2.2.1
  case neg => rw [if_pos (by simp [c3]), same_false.2 (fun h => c3 (congrArg (fun z : Cmd => z.2.2.2.1) h))]
  rw [if_neg (by simp [c3])]
  by_cases c4 : x0.2.2.2.2.1 = x1.2.2.2.2.1
  case neg => rw [if_pos (by simp [c4]), same_false.2 (fun h => c4 (congrArg (fun z : Cmd => z.2.2.2.2.1) h))]
  rw [if_neg (by simp [c4])]
  by_cases c5 : x0.2.2.2.2.2.1 = x1.2.2.2.2.2.1
  case neg => rw [if_pos (by simp [c5]), same_false.2 (fun h => c5 (congrArg (fun z : Cmd => z.2.2.2.2.2.1) h))]
  rw [if_neg (by simp [c5])]
  by_cases c6 : x0.2.2.2.2.2.2.1 = x1.2.2.2.2.2.2.1
  case neg => rw [if_pos (by simp [c6]), same_false.2 (fun h => c6 (congrArg (fun z : Cmd => z.2.2.2.2.2.2.1) h))]
  rw [if_neg (by simp [c6])]
  by_cases c7 : x0.2.2.2.2.2.2.2.1 = x1.2.2.2.2.2.2.2.1
  case neg => rw [if_pos (by simp [c7]), same_false.2 (fun h => c7 (congrArg (fun z : Cmd => z.2.2.2.2.2.2.2.1) h))]
  rw [if_neg (by simp [c7])]
  rw [same_true.2 (Prod.ext c0 (Prod.ext c1 (Prod.ext c2 (Prod.ext c3 (Prod.ext c4 (Prod.ext c5 (Prod.ext c6 (Prod.ext c7 rfl))))))))]
end laws_eqCmd
def laws_toCmd (x : Cmd) : Cmd := x
namespace laws_toCmd
abbrev wf (x0 : Cmd) : Prop := wfA [(.val zk30 .f)] (x0, ())
noncomputable def raw (x0 : Cmd) : Option (Unit × (Cmd × Unit)) :=
 some ((), (x0, ()))
theorem eq (x0 : Cmd) (_ : wf x0) : raw x0 = some ((), (laws_toCmd x0, ())) := rfl
end laws_toCmd
def laws_szCmd (x : Cmd) (l : Int) : Int := szN (w_Cmd x) l
namespace laws_szCmd
def pre (_ : Cmd) (l : Int) : Bool := decide (0 ≤ l) && decide (l ≤ maxLen)
abbrev wf (x0 : Cmd) (x1 : Int) : Prop := wfA [(.val zk30 .f), (.val (.int .i64) .f)] (x0, (x1, ()))
noncomputable def raw (x0 : Cmd) (x1 : Int) : Option zt22 :=
 if (decide ((IntKind.wrap .i64 (x1 - ((List.length x0.2.2.2.2.2.2.1 : Nat) : Int))) < (0 : Int))) = true then
  some ((), ((-1 : Int), ()))
 else
  if (decide ((IntKind.wrap .i64 ((IntKind.wrap .i64 (x1 - ((List.length x0.2.2.2.2.2.2.1 : Nat) : Int))) - ((List.length x0.2.2.2.2.2.2.2.1 : Nat) : Int))) < (0 : Int))) = true then
   some ((), ((-1 : Int), ()))
  else
   some ((), ((IntKind.wrap .i64 ((IntKind.wrap .i64 (x1 - ((List.length x0.2.2.2.2.2.2.1 : Nat) : Int))) - ((List.length x0.2.2.2.2.2.2.2.1 : Nat) : Int))), ()))
theorem eq (x0 : Cmd) (x1 : Int) (hw : wf x0 x1) (hp : pre x0 x1 = true) : raw x0 x1 = some ((), (laws_szCmd x0 x1, ())) := by
  simp only [pre, Bool.and_eq_true, decide_eq_true_eq] at hp
  have hM := maxLen_eq
  have t6 : x0.2.2.2.2.2.2.1.length ≤ maxLen := hw.1.2.2.2.2.2.2.1
  have t7 : x0.2.2.2.2.2.2.2.1.length ≤ maxLen := hw.1.2.2.2.2.2.2.2.1
  unfold raw
  try simp only [letB]
  rw [w64 (n := x1 - (x0.2.2.2.2.2.2.1.length : Int)) (by omega) (by omega)]
  by_cases c6 : x1 - (x0.2.2.2.2.2.2.1.length : Int) < 0
  · rw [if_pos (decide_eq_true c6), show laws_szCmd x0 x1 = -1 from szN_neg (by simp only [w_Cmd]; omega)]
  rw [if_neg (by rw [decide_eq_true_eq]; exact c6)]
  rw [w64 (n := x1 - (x0.2.2.2.2.2.2.1.length : Int) - (x0.2.2.2.2.2.2.2.1.length : Int)) (by omega) (by omega)]
  by_cases c7 : x1 - (x0.2.2.2.2.2.2.1.length : Int) - (x0.2.2.2.2.2.2.2.1.length : Int) < 0
  · rw [if_pos (decide_eq_true c7), show laws_szCmd x0 x1 = -1 from szN_neg (by simp only [w_Cmd]; omega)]
  rw [if_neg (by rw [decide_eq_true_eq]; exact c7)]
  rw [show laws_szCmd x0 x1 = x1 - (x0.2.2.2.2.2.2.1.length : Int) - (x0.2.2.2.2.2.2.2.1.length : Int) from by rw [laws_szCmd, szN_pos (by simp only [w_Cmd]; omega)]; simp only [w_Cmd]; omega]
end laws_szCmd
def w_Entry (x : Entry) : Int := w_Cmd x.2.1
theorem w_Entry_nn (x : Entry) : 0 ≤ w_Entry x := by
  have n1 := w_Cmd_nn x.2.1
  simp only [w_Entry]; omega
noncomputable def laws_eqEntry (a b : Entry) : Bool := same a b
namespace laws_eqEntry
abbrev wf (x0 : Entry) (x1 : Entry) : Prop := wfA [(.val zk6 .f), (.val zk6 .f)] (x0, (x1, ()))
noncomputable def raw (x0 : Entry) (x1 : Entry) : Option zt25 :=
 if (!(decide (x0.1 = x1.1))) = true then
  some ((), (false, ()))
 else
  letB (laws_eqCmd x0.2.1 x1.2.1) fun v1 =>
  if (!v1) = true then
   some ((), (false, ()))
  else
   some ((), (true, ()))
theorem eq (x0 x1 : Entry) (_ : wf x0 x1) : raw x0 x1 = some ((), (laws_eqEntry x0 x1, ())) := by
  unfold raw laws_eqEntry
  try simp only [letB]
  by_cases c0 : x0.1 = x1.1
  case neg => rw [if_pos (by simp [c0]), same_false.2 (fun h => c0 (congrArg (fun z : Entry => z.1) h))]
  rw [if_neg (by simp [c0])]
  by_cases c1 : x0.2.1 = x1.2.1
  case neg => rw [if_pos (by rw [laws_eqCmd, same_false.2 c1]; rfl), same_false.2 (fun h => c1 (congrArg (fun z : Entry => z.2.1) h))]
  rw [if_neg (by rw [laws_eqCmd, same_true.2 c1]; simp)]
  rw [same_true.2 (Prod.ext c0 (Prod.ext c1 rfl))]
end laws_eqEntry
def laws_toEntry (x : Entry) : Entry := x
namespace laws_toEntry
abbrev wf (x0 : Entry) : Prop := wfA [(.val zk6 .f)] (x0, ())
noncomputable def raw (x0 : Entry) : Option (Unit × (Entry × Unit)) :=
 letB (laws_toCmd x0.2.1) fun v1 =>
 some ((), ((x0.1, (v1, ())), ()))
theorem eq (x0 : Entry) (_ : wf x0) : raw x0 = some ((), (laws_toEntry x0, ())) := rfl
end laws_toEntry
def laws_szEntry (x : Entry) (l : Int) : Int := szN (w_Entry x) l
namespace laws_szEntry
def pre (_ : Entry) (l : Int) : Bool := decide (0 ≤ l) && decide (l ≤ maxLen)
abbrev wf (x0 : Entry) (x1 : Int) : Prop := wfA [(.val zk6 .f), (.val (.int .i64) .f)] (x0, (x1, ()))
noncomputable def raw (x0 : Entry) (x1 : Int) : Option zt22 :=
 if (laws_szCmd.pre x0.2.1 x1) = true then
  letB (laws_szCmd x0.2.1 x1) fun v1 =>
  if (decide (v1 < (0 : Int))) = true then
   some ((), ((-1 : Int), ()))
  else
   some ((), (v1, ()))
 else
  none
theorem eq (x0 : Entry) (x1 : Int) (hw : wf x0 x1) (hp : pre x0 x1 = true) : raw x0 x1 = some ((), (laws_szEntry x0 x1, ())) := by
  simp only [pre, Bool.and_eq_true, decide_eq_true_eq] at hp
  have hM := maxLen_eq
  have t1 := w_Cmd_nn x0.2.1
  unfold raw
  try simp only [letB]
  rw [if_pos (show laws_szCmd.pre _ _ = true by simp only [laws_szCmd.pre, Bool.and_eq_true, decide_eq_true_eq]; omega)]
  by_cases c1 : x1 - w_Cmd x0.2.1 < 0
  · rw [show laws_szCmd x0.2.1 (x1) = -1 from szN_neg c1, if_pos (by decide), show laws_szEntry x0 x1 = -1 from szN_neg (by simp only [w_Entry]; omega)]
  rw [show laws_szCmd x0.2.1 (x1) = x1 - w_Cmd x0.2.1 from szN_pos c1, if_neg (by rw [decide_eq_true_eq]; exact c1)]
  rw [show laws_szEntry x0 x1 = x1 - w_Cmd x0.2.1 from by rw [laws_szEntry, szN_pos (by simp only [w_Entry]; omega)]; simp only [w_Entry]]
end laws_szEntry
noncomputable def laws_eqEntryS (a b : List Entry) : Bool := same a b
namespace laws_eqEntryS
def pre4 := eqPre (α := Entry)
noncomputable def fn4 := eqFn (α := Entry)
def mu4 := eqMu (α := Entry)
noncomputable def raw4 (x1 : (List Entry)) (x2 : (List Entry)) (x3 : Int) : Option (((List Entry) × ((List Entry) × (Int × Unit))) ⊕ ((Bool × Unit) ⊕ Unit)) :=
 if (decide (x3 < ((List.length x1 : Nat) : Int))) = true then
  if (decide ((0 : Int) ≤ x3)) = true then
   if (decide (x3 < ((List.length x1 : Nat) : Int))) = true then
    if (decide ((0 : Int) ≤ x3)) = true then
     if (decide (x3 < ((List.length x2 : Nat) : Int))) = true then
      letB (laws_eqEntry (List.getD x1 (Int.toNat x3) zd14) (List.getD x2 (Int.toNat x3) zd14)) fun v1 =>
      if (!v1) = true then
       some (.inr (.inl (false, ())))
      else
       some (.inl (x1, (x2, ((IntKind.wrap .i64 (x3 + (1 : Int))), ()))))
     else
      none
    else
     none
   else
    none
  else
   none
 else
  some (.inr (.inr ()))
abbrev wf (x0 : (List Entry)) (x1 : (List Entry)) : Prop := wfA [(.val (.sl 0 zk6) .f), (.val (.sl 0 zk6) .f)] (x0, (x1, ()))
noncomputable def raw (x0 : (List Entry)) (x1 : (List Entry)) : Option zt25 :=
 if (!(decide (((List.length x0 : Nat) : Int) = ((List.length x1 : Nat) : Int)))) = true then
  some ((), (false, ()))
 else
  if (laws_eqEntryS.pre4 (x0, (x1, ((0 : Int), ())))) = true then
   letB (laws_eqEntryS.fn4 (x0, (x1, ((0 : Int), ())))) fun v1 =>
   match v1 with
   | .inl y =>
    some ((), y)
   | .inr y =>
    some ((), (true, ()))
  else
   none
theorem ok4 (x1 x2 : List Entry) (x3 : Int) (hp : pre4 (x1, (x2, (x3, ()))) = true) : Rounds pre4 mu4 fn4 (x1, (x2, (x3, ()))) (raw4 x1 x2 x3) := by
  unfold raw4
  by_cases hlt : x3 < (x1.length : Int)
  · obtain ⟨h1, h2, h3, h4⟩ := eq_next hp hlt zd14
    simp only [letB, hlt, h1, h2, decide_true, if_true]
    by_cases h : x1.getD x3.toNat zd14 = x2.getD x3.toNat zd14
    · rw [if_neg (by rw [laws_eqEntry, same_true.2 h]; simp)]; exact h3 h
    · rw [if_pos (by rw [laws_eqEntry, same_false.2 h]; rfl)]; exact h4 h
  · simp only [hlt, decide_false, Bool.false_eq_true, if_false]
    exact eq_end hp hlt
theorem eq (x0 x1 : List Entry) (hw : wf x0 x1) : raw x0 x1 = some ((), (laws_eqEntryS x0 x1, ())) := by
  have h1 : x0.length ≤ maxLen := hw.1.1
  unfold raw laws_eqEntryS
  by_cases hl : (x0.length : Int) = (x1.length : Int)
  · rw [if_neg (by simp [hl]), if_pos (show pre4 _ = true from eq_start h1 hl)]
    unfold fn4
    by_cases he : x0 = x1
    · rw [eqFn_eq he, same_true.2 he]; rfl
    · rw [eqFn_ne he, same_false.2 he]; rfl
  · have : ¬ x0 = x1 := fun h => hl (by rw [h])
    rw [if_pos (by simp [hl]), same_false.2 this]
end laws_eqEntryS
def laws_toEntryS (xs : List Entry) : List Entry := xs
namespace laws_toEntryS
def pre (xs : List Entry) : Bool := small xs && xs.all (fun _ => true)
noncomputable def pre3 := tcPreB (α := Entry) (fun _ => true)
def fn3 := toFn (α := Entry)
def mu3 := toMu (α := Entry)
noncomputable def raw3 (x1 : (List Entry)) (x2 : Int) (x3 : (List Entry)) : Option (((List Entry) × (Int × ((List Entry) × Unit))) ⊕ ((List Entry) × Unit)) :=
 if (decide (x2 < ((List.length x1 : Nat) : Int))) = true then
  if (decide ((0 : Int) ≤ x2)) = true then
   if (decide (x2 < ((List.length x1 : Nat) : Int))) = true then
    if (decide ((0 : Int) ≤ x2)) = true then
     if (decide (x2 < ((List.length x3 : Nat) : Int))) = true then
      some (.inl (x1, ((IntKind.wrap .i64 (x2 + (1 : Int))), ((List.modify x3 (Int.toNat x2) (fun z => (laws_toEntry (List.getD x1 (Int.toNat x2) zd14)))), ()))))
     else
      none
    else
     none
   else
    none
  else
   none
 else
  some (.inr (x3, ()))
abbrev wf (x0 : (List Entry)) : Prop := wfA [(.val (.sl 0 zk6) .f)] (x0, ())
noncomputable def raw (x0 : (List Entry)) : Option (Unit × ((List Entry) × Unit)) :=
 if (decide ((0 : Int) ≤ ((List.length x0 : Nat) : Int))) = true then
  if (decide (((List.length x0 : Nat) : Int) ≤ ((List.length x0 : Nat) : Int))) = true then
   if (decide (((List.length x0 : Nat) : Int) ≤ (4294967296 : Int))) = true then
    if (laws_toEntryS.pre3 (x0, ((0 : Int), ((List.replicate (Int.toNat ((List.length x0 : Nat) : Int)) zd14), ())))) = true then
     letB (laws_toEntryS.fn3 (x0, ((0 : Int), ((List.replicate (Int.toNat ((List.length x0 : Nat) : Int)) zd14), ())))) fun v1 =>
     some ((), v1)
    else
     none
   else
    none
  else
   none
 else
  none
theorem ok3 (x1 : List Entry) (x2 : Int) (x3 : List Entry) (hp : pre3 (x1, (x2, (x3, ()))) = true) : Rounds pre3 mu3 fn3 (x1, (x2, (x3, ()))) (raw3 x1 x2 x3) := by
  unfold raw3
  by_cases hlt : x2 < (x1.length : Int)
  · obtain ⟨h1, h2, h3⟩ := tc_facts hp hlt zd14
    simp only [letB, hlt, h1, h2, h3, decide_true, if_true]
    exact tc_step hp hlt zd14 rfl
  · rw [if_neg (by simp [hlt])]; exact tc_end hp hlt
theorem eq (x0 : List Entry) (hw : wf x0) (hp : pre x0 = true) : raw x0 = some ((), (laws_toEntryS x0, ())) := by
  have h1 : x0.length ≤ maxLen := hw.1.1
  simp only [pre, Bool.and_eq_true, small_iff] at hp
  unfold raw
  rw [if_pos (by simp), if_pos (by simp), if_pos (by simp; omega), if_pos (show pre3 _ = true from tc_start h1 hp.2 _)]
  rfl
end laws_toEntryS
theorem toEntryS_pre {xs : List Entry} (h : wL w_Entry xs ≤ 16777216) : laws_toEntryS.pre xs = true := by
  have hl := wL_nn w_Entry_nn xs
  simp only [laws_toEntryS.pre, Bool.and_eq_true, small_iff]
  exact ⟨by omega, by simp⟩
def laws_szEntryS (xs : List Entry) (l : Int) : Int := szN (wL w_Entry xs) l
namespace laws_szEntryS
def pre (_ : List Entry) (l : Int) : Bool := decide (0 ≤ l) && decide (l ≤ maxLen)
def pre5 := swPre (α := Entry)
def fn5 := swFn w_Entry
def mu5 := szMu (α := Entry)
noncomputable def raw5 (x1 : (List Entry)) (x2 : Int) (x3 : Int) : Option (((List Entry) × Mark) ⊕ ((Int × Unit) ⊕ (Int × Unit))) :=
 if (decide (x3 < ((List.length x1 : Nat) : Int))) = true then
  if (decide ((0 : Int) ≤ x3)) = true then
   if (decide (x3 < ((List.length x1 : Nat) : Int))) = true then
    if (laws_szEntry.pre (List.getD x1 (Int.toNat x3) zd14) x2) = true then
     letB (laws_szEntry (List.getD x1 (Int.toNat x3) zd14) x2) fun v1 =>
     if (decide (v1 < (0 : Int))) = true then
      some (.inr (.inl ((-1 : Int), ())))
     else
      some (.inl (x1, (v1, ((IntKind.wrap .i64 (x3 + (1 : Int))), ()))))
    else
     none
   else
    none
  else
   none
 else
  some (.inr (.inr (x2, ())))
abbrev wf (x0 : (List Entry)) (x1 : Int) : Prop := wfA [(.val (.sl 0 zk6) .f), (.val (.int .i64) .f)] (x0, (x1, ()))
noncomputable def raw (x0 : (List Entry)) (x1 : Int) : Option zt22 :=
 if (decide ((IntKind.wrap .i64 (x1 - ((List.length x0 : Nat) : Int))) < (0 : Int))) = true then
  some ((), ((-1 : Int), ()))
 else
  if (laws_szEntryS.pre5 (x0, ((IntKind.wrap .i64 (x1 - ((List.length x0 : Nat) : Int))), ((0 : Int), ())))) = true then
   letB (laws_szEntryS.fn5 (x0, ((IntKind.wrap .i64 (x1 - ((List.length x0 : Nat) : Int))), ((0 : Int), ())))) fun v1 =>
   match v1 with
   | .inl y =>
    some ((), y)
   | .inr y =>
    some ((), y)
  else
   none
theorem ok5 (x1 : List Entry) (x2 x3 : Int) (hp : pre5 (x1, (x2, (x3, ()))) = true) : Rounds pre5 mu5 fn5 (x1, (x2, (x3, ()))) (raw5 x1 x2 x3) := by
  unfold raw5
  by_cases hlt : x3 < (x1.length : Int)
  · obtain ⟨h0, h1, h2⟩ := sw_facts hp
    have q : laws_szEntry.pre (x1.getD x3.toNat zd14) x2 = true := by simp only [laws_szEntry.pre, Bool.and_eq_true, decide_eq_true_eq]; exact ⟨h1, h2⟩
    simp only [letB, hlt, h0, q, decide_true, if_true]
    by_cases c : x2 - w_Entry (x1.getD x3.toNat zd14) < 0
    · rw [show laws_szEntry (x1.getD x3.toNat zd14) x2 = -1 from szN_neg c, if_pos (by decide)]; exact sw_bad w_Entry_nn hp hlt zd14 c
    · rw [show laws_szEntry (x1.getD x3.toNat zd14) x2 = x2 - w_Entry (x1.getD x3.toNat zd14) from szN_pos c, if_neg (by rw [decide_eq_true_eq]; exact c)]; exact sw_good w_Entry_nn hp hlt zd14 c
  · rw [if_neg (by simp [hlt])]; exact sw_end hp hlt
theorem eq (x0 : List Entry) (x1 : Int) (hw : wf x0 x1) (hp : pre x0 x1 = true) : raw x0 x1 = some ((), (laws_szEntryS x0 x1, ())) := by
  have h1 : x0.length ≤ maxLen := hw.1.1
  simp only [pre, Bool.and_eq_true, decide_eq_true_eq] at hp
  have hM := maxLen_eq
  have hnn := sumW_nn w_Entry_nn x0
  unfold raw
  rw [w64 (n := x1 - (x0.length : Int)) (by omega) (by omega)]
  by_cases c : x1 - (x0.length : Int) < 0
  · rw [if_pos (decide_eq_true c), show laws_szEntryS x0 x1 = -1 from szN_neg (by simp only [wL]; omega)]
  · rw [if_neg (by rw [decide_eq_true_eq]; exact c), if_pos (show pre5 _ = true from sw_start h1 (by omega) (by omega))]
    exact swFn_start x0 x1
end laws_szEntryS
def mk_Entry (_ : Entry) (k : Int) : Entry := mE k
def cnt_Entry (_ : Entry) : Int := 9
theorem mk_Entry_ok : MkOk mk_Entry cnt_Entry := ⟨fun _ => by simp only [cnt_Entry]; decide, fun _ _ => rfl, fun _ _ => rfl⟩
theorem mkL_Entry : (xs : List Entry) → (k : Int) → mkL mk_Entry cnt_Entry xs k = markEL xs.length k
  | [], _ => rfl
  | a :: r, k => by
    simp only [mkL, List.length_cons, markEL, mkL_Entry r]
    rw [show k + cnt_Entry a = k + 1 + 1 + 1 + 1 + 1 + 1 + 1 + 1 + 1 by simp only [cnt_Entry]; omega]
    rfl
theorem cntL_Entry : (xs : List Entry) → cntL cnt_Entry xs = 9 * xs.length
  | [] => rfl
  | a :: r => by simp only [cntL, cnt_Entry, cntL_Entry r, List.length_cons]; omega
theorem markEntryS_eq (xs : List Entry) (k : Int) : laws_markEntryS xs k = (mkL mk_Entry cnt_Entry xs k, k + cntL cnt_Entry xs) := by
  rw [mkL_Entry, cntL_Entry]; rfl
theorem markEntryS_pre {xs : List Entry} {k : Int} (h0 : 0 ≤ k) (h1 : k + cntL cnt_Entry xs ≤ 134217728) : laws_markEntryS.pre xs k = true := by
  rw [cntL_Entry] at h1
  simp only [laws_markEntryS.pre, Bool.and_eq_true, decide_eq_true_eq, small_iff]; omega
theorem heldEntryS_eq (xs : List Entry) (k : Int) : laws_heldEntryS xs k = heldN (mkL mk_Entry cnt_Entry) (cntL cnt_Entry) xs k := by
  unfold laws_heldEntryS
  by_cases h : xs = mkL mk_Entry cnt_Entry xs k
  · rw [heldN_pos h, cntL_Entry, if_pos (by rw [← mkL_Entry]; exact h)]
  · rw [heldN_neg h, if_neg (by rw [← mkL_Entry]; exact h)]
theorem heldEntryS_pos {xs : List Entry} {k : Int} (h : xs = mkL mk_Entry cnt_Entry xs k) : laws_heldEntryS xs k = k + cntL cnt_Entry xs := by rw [heldEntryS_eq]; exact heldN_pos h
theorem heldEntryS_neg {xs : List Entry} {k : Int} (h : ¬ xs = mkL mk_Entry cnt_Entry xs k) : laws_heldEntryS xs k = -1 := by rw [heldEntryS_eq]; exact heldN_neg h
theorem heldEntryS_pre {xs : List Entry} {k : Int} (h0 : 0 ≤ k) (h1 : k + cntL cnt_Entry xs ≤ 134217728) : laws_heldEntryS.pre xs k = true := markEntryS_pre h0 h1
def mkT_Log (x : Log) (k : Int) : Log := (x.1, (x.2.1, (mkL mk_Entry cnt_Entry x.2.2.1 (k), ())))
def cntT_Log (x : Log) : Int := cntL cnt_Entry x.2.2.1
theorem cntT_Log_nn (x : Log) : 0 ≤ cntT_Log x := by
  have n2 := cntL_nn mk_Entry_ok x.2.2.1
  simp only [cntT_Log]; omega
theorem mkT_Log_keep (x : Log) (k : Int) : cntT_Log (mkT_Log x k) = cntT_Log x := by simp only [cntT_Log, mkT_Log, cntL_mkL mk_Entry_ok]
theorem mkT_Log_idem (x : Log) (k : Int) : mkT_Log (mkT_Log x k) k = mkT_Log x k := by simp only [mkT_Log, cntL_mkL mk_Entry_ok, mkL_mkL mk_Entry_ok]
theorem markLog_eq (x : Log) (k : Int) : laws_markLog x k = (mkT_Log x k, k + cntT_Log x) := by
  simp only [mkT_Log, cntT_Log, mkL_Entry, cntL_Entry]; rfl
theorem markLogK_pre {x : Log} {k : Int} (h0 : 0 ≤ k) (h1 : k + cntT_Log x ≤ 134217728) : laws_markLog.pre x k = true := markEntryS_pre h0 h1
theorem heldLogK_pre {x : Log} {k : Int} (h0 : 0 ≤ k) (h1 : k + cntT_Log x ≤ 134217728) : laws_heldLog.pre x k = true := markEntryS_pre h0 h1
theorem heldLog_pos {x : Log} {k : Int} (h : x = mkT_Log x k) (h0 : 0 ≤ k) : laws_heldLog x k = k + cntT_Log x := by
  have h2 := heldEntryS_pos (xs := x.2.2.1) (k := k) (congrArg (fun z : Log => z.2.2.1) h)
  have h3 := cntL_nn mk_Entry_ok x.2.2.1
  unfold laws_heldLog
  simp only [h2, cntT_Log]
  rw [if_neg (by omega)]
theorem heldLog_neg {x : Log} {k : Int} (h : ¬ x = mkT_Log x k) : laws_heldLog x k = -1 := by
  have h2 := heldEntryS_neg (xs := x.2.2.1) (k := k) (fun g => h (Prod.ext rfl (Prod.ext rfl (Prod.ext g rfl))))
  unfold laws_heldLog
  simp only [h2]
  rfl
theorem cnt_Entry_le (x : Entry) : cnt_Entry x ≤ 32 + 32 * w_Entry x := by
  have := w_Entry_nn x
  simp only [cnt_Entry]; omega
def w_Log (x : Log) : Int := wL w_Entry x.2.2.1
theorem w_Log_nn (x : Log) : 0 ≤ w_Log x := by
  have n2 := wL_nn w_Entry_nn x.2.2.1
  simp only [w_Log]; omega
noncomputable def laws_eqLog (a b : Log) : Bool := same a b
namespace laws_eqLog
abbrev wf (x0 : Log) (x1 : Log) : Prop := wfA [(.val zk20 .f), (.val zk20 .f)] (x0, (x1, ()))
noncomputable def raw (x0 : Log) (x1 : Log) : Option zt25 :=
 if (!(decide (x0.1 = x1.1))) = true then
  some ((), (false, ()))
 else
  if (!(decide (x0.2.1 = x1.2.1))) = true then
   some ((), (false, ()))
  else
   letB (laws_eqEntryS x0.2.2.1 x1.2.2.1) fun v1 =>
   if (!v1) = true then
    some ((), (false, ()))
   else
    some ((), (true, ()))
theorem eq (x0 x1 : Log) (_ : wf x0 x1) : raw x0 x1 = some ((), (laws_eqLog x0 x1, ())) := by
  unfold raw laws_eqLog
  try simp only [letB]
  by_cases c0 : x0.1 = x1.1
  case neg => rw [if_pos (by simp [c0]), same_false.2 (fun h => c0 (congrArg (fun z : Log => z.1) h))]
  rw [if_neg (by simp [c0])]
  by_cases c1 : x0.2.1 = x1.2.1
  case neg => rw [if_pos (by simp [c1]), same_false.2 (fun h => c1 (congrArg (fun z : Log => z.2.1) h))]
  rw [if_neg (by simp [c1])]
  by_cases c2 : x0.2.2.1 = x1.2.2.1
  case neg => rw [if_pos (by rw [laws_eqEntryS, same_false.2 c2]; rfl), same_false.2 (fun h => c2 (congrArg (fun z : Log => z.2.2.1) h))]
  rw [if_neg (by rw [laws_eqEntryS, same_true.2 c2]; simp)]
  rw [same_true.2 (Prod.ext c0 (Prod.ext c1 (Prod.ext c2 rfl)))]
end laws_eqLog
def laws_toLog (x : Log) : Log := x
namespace laws_toLog
def pre (x : Log) : Bool := laws_toEntryS.pre x.2.2.1
abbrev wf (x0 : Log) : Prop := wfA [(.val zk20 .f)] (x0, ())
noncomputable def raw (x0 : Log) : Option (Unit × (Log × Unit)) :=
 if (laws_toEntryS.pre x0.2.2.1) = true then
  letB (laws_toEntryS x0.2.2.1) fun v1 =>
  some ((), ((x0.1, (x0.2.1, (v1, ()))), ()))
 else
  none
theorem eq (x0 : Log) (_ : wf x0) (hp : pre x0 = true) : raw x0 = some ((), (laws_toLog x0, ())) := by
  simp only [pre, Bool.and_eq_true] at hp
  unfold raw
  try simp only [letB]
  rw [if_pos hp]
  rfl
end laws_toLog
theorem toLog_pre {x : Log} (h : w_Log x ≤ 16777216) : laws_toLog.pre x = true := by
  simp only [w_Log] at h
  have n2 := wL_nn w_Entry_nn x.2.2.1
  simp only [laws_toLog.pre, Bool.and_eq_true]
  exact toEntryS_pre (by omega)
def laws_szLog (x : Log) (l : Int) : Int := szN (w_Log x) l
namespace laws_szLog
def pre (_ : Log) (l : Int) : Bool := decide (0 ≤ l) && decide (l ≤ maxLen)
abbrev wf (x0 : Log) (x1 : Int) : Prop := wfA [(.val zk20 .f), (.val (.int .i64) .f)] (x0, (x1, ()))
noncomputable def raw (x0 : Log) (x1 : Int) : Option zt22 :=
 if (laws_szEntryS.pre x0.2.2.1 x1) = true then
  letB (laws_szEntryS x0.2.2.1 x1) fun v1 =>
  if (decide (v1 < (0 : Int))) = true then
   some ((), ((-1 : Int), ()))
  else
   some ((), (v1, ()))
 else
  none
theorem eq (x0 : Log) (x1 : Int) (hw : wf x0 x1) (hp : pre x0 x1 = true) : raw x0 x1 = some ((), (laws_szLog x0 x1, ())) := by
  simp only [pre, Bool.and_eq_true, decide_eq_true_eq] at hp
  have hM := maxLen_eq
  have t2 := wL_nn w_Entry_nn x0.2.2.1
  unfold raw
  try simp only [letB]
  rw [if_pos (show laws_szEntryS.pre _ _ = true by simp only [laws_szEntryS.pre, Bool.and_eq_true, decide_eq_true_eq]; omega)]
  by_cases c2 : x1 - wL w_Entry x0.2.2.1 < 0
  · rw [show laws_szEntryS x0.2.2.1 (x1) = -1 from szN_neg c2, if_pos (by decide), show laws_szLog x0 x1 = -1 from szN_neg (by simp only [w_Log]; omega)]
  rw [show laws_szEntryS x0.2.2.1 (x1) = x1 - wL w_Entry x0.2.2.1 from szN_pos c2, if_neg (by rw [decide_eq_true_eq]; exact c2)]
  rw [show laws_szLog x0 x1 = x1 - wL w_Entry x0.2.2.1 from by rw [laws_szLog, szN_pos (by simp only [w_Log]; omega)]; simp only [w_Log]]
end laws_szLog
theorem cntT_Log_le (x : Log) : cntT_Log x ≤ 32 * w_Log x := by
  have n2 := cntL_le cnt_Entry_le x.2.2.1
  simp only [w_Log, cntT_Log]; omega
def mk_Mark (_ : Mark) (k : Int) : Mark := (k, (k + 1, ()))
def cnt_Mark (_ : Mark) : Int := 2
theorem mk_Mark_ok : MkOk mk_Mark cnt_Mark := ⟨fun _ => by simp only [cnt_Mark]; decide, fun _ _ => rfl, fun _ _ => rfl⟩
def w_Mark (_ : Mark) : Int := 0
theorem w_Mark_nn (x : Mark) : 0 ≤ w_Mark x := by
  simp only [w_Mark]; omega
theorem cnt_Mark_le (x : Mark) : cnt_Mark x ≤ 32 + 32 * w_Mark x := by
  simp only [w_Mark, cnt_Mark]; omega
noncomputable def laws_eqMark (a b : Mark) : Bool := same a b
namespace laws_eqMark
abbrev wf (x0 : Mark) (x1 : Mark) : Prop := wfA [(.val (.pair (.int .i64) zk28) .f), (.val (.pair (.int .i64) zk28) .f)] (x0, (x1, ()))
noncomputable def raw (x0 : Mark) (x1 : Mark) : Option zt25 :=
 if (!(decide (x0.1 = x1.1))) = true then
  some ((), (false, ()))
 else
  if (!(decide (x0.2.1 = x1.2.1))) = true then
   some ((), (false, ()))
  else
   some ((), (true, ()))
theorem eq (x0 x1 : Mark) (_ : wf x0 x1) : raw x0 x1 = some ((), (laws_eqMark x0 x1, ())) := by
  unfold raw laws_eqMark
  try simp only [letB]
  by_cases c0 : x0.1 = x1.1
  case neg => rw [if_pos (by simp [c0]), same_false.2 (fun h => c0 (congrArg (fun z : Mark => z.1) h))]
  rw [if_neg (by simp [c0])]
  by_cases c1 : x0.2.1 = x1.2.1
  case neg => rw [if_pos (by simp [c1]), same_false.2 (fun h => c1 (congrArg (fun z : Mark => z.2.1) h))]
  rw [if_neg (by simp [c1])]
  rw [same_true.2 (Prod.ext c0 (Prod.ext c1 rfl))]
end laws_eqMark
def laws_toMark (x : Mark) : Mark := x
namespace laws_toMark
abbrev wf (x0 : Mark) : Prop := wfA [(.val (.pair (.int .i64) zk28) .f)] (x0, ())
noncomputable def raw (x0 : Mark) : Option (Unit × (Mark × Unit)) :=
 some ((), (x0, ()))
theorem eq (x0 : Mark) (_ : wf x0) : raw x0 = some ((), (laws_toMark x0, ())) := rfl
end laws_toMark
noncomputable def laws_eqMarkS (a b : List Mark) : Bool := same a b
namespace laws_eqMarkS
def pre4 := eqPre (α := Mark)
noncomputable def fn4 := eqFn (α := Mark)
def mu4 := eqMu (α := Mark)
noncomputable def raw4 (x1 : (List Mark)) (x2 : (List Mark)) (x3 : Int) : Option (((List Mark) × ((List Mark) × (Int × Unit))) ⊕ ((Bool × Unit) ⊕ Unit)) :=
 if (decide (x3 < ((List.length x1 : Nat) : Int))) = true then
  if (decide ((0 : Int) ≤ x3)) = true then
   if (decide (x3 < ((List.length x1 : Nat) : Int))) = true then
    if (decide ((0 : Int) ≤ x3)) = true then
     if (decide (x3 < ((List.length x2 : Nat) : Int))) = true then
      letB (laws_eqMark (List.getD x1 (Int.toNat x3) zd27) (List.getD x2 (Int.toNat x3) zd27)) fun v1 =>
      if (!v1) = true then
       some (.inr (.inl (false, ())))
      else
       some (.inl (x1, (x2, ((IntKind.wrap .i64 (x3 + (1 : Int))), ()))))
     else
      none
    else
     none
   else
    none
  else
   none
 else
  some (.inr (.inr ()))
abbrev wf (x0 : (List Mark)) (x1 : (List Mark)) : Prop := wfA [(.val (.sl 0 (.pair (.int .i64) zk28)) .f), (.val (.sl 0 (.pair (.int .i64) zk28)) .f)] (x0, (x1, ()))
noncomputable def raw (x0 : (List Mark)) (x1 : (List Mark)) : Option zt25 :=
 if (!(decide (((List.length x0 : Nat) : Int) = ((List.length x1 : Nat) : Int)))) = true then
  some ((), (false, ()))
 else
  if (laws_eqMarkS.pre4 (x0, (x1, ((0 : Int), ())))) = true then
   letB (laws_eqMarkS.fn4 (x0, (x1, ((0 : Int), ())))) fun v1 =>
   match v1 with
   | .inl y =>
    some ((), y)
   | .inr y =>
    some ((), (true, ()))
  else
   none
theorem ok4 (x1 x2 : List Mark) (x3 : Int) (hp : pre4 (x1, (x2, (x3, ()))) = true) : Rounds pre4 mu4 fn4 (x1, (x2, (x3, ()))) (raw4 x1 x2 x3) := by
  unfold raw4
  by_cases hlt : x3 < (x1.length : Int)
  · obtain ⟨h1, h2, h3, h4⟩ := eq_next hp hlt zd27
    simp only [letB, hlt, h1, h2, decide_true, if_true]
    by_cases h : x1.getD x3.toNat zd27 = x2.getD x3.toNat zd27
    · rw [if_neg (by rw [laws_eqMark, same_true.2 h]; simp)]; exact h3 h
    · rw [if_pos (by rw [laws_eqMark, same_false.2 h]; rfl)]; exact h4 h
  · simp only [hlt, decide_false, Bool.false_eq_true, if_false]
    exact eq_end hp hlt
theorem eq (x0 x1 : List Mark) (hw : wf x0 x1) : raw x0 x1 = some ((), (laws_eqMarkS x0 x1, ())) := by
  have h1 : x0.length ≤ maxLen := hw.1.1
  unfold raw laws_eqMarkS
  by_cases hl : (x0.length : Int) = (x1.length : Int)
  · rw [if_neg (by simp [hl]), if_pos (show pre4 _ = true from eq_start h1 hl)]
    unfold fn4
    by_cases he : x0 = x1
    · rw [eqFn_eq he, same_true.2 he]; rfl
    · rw [eqFn_ne he, same_false.2 he]; rfl
  · have : ¬ x0 = x1 := fun h => hl (by rw [h])
    rw [if_pos (by simp [hl]), same_false.2 this]
end laws_eqMarkS
def laws_toMarkS (xs : List Mark) : List Mark := xs
namespace laws_toMarkS
def pre (xs : List Mark) : Bool := small xs && xs.all (fun _ => true)
noncomputable def pre3 := tcPreB (α := Mark) (fun _ => true)
def fn3 := toFn (α := Mark)
def mu3 := toMu (α := Mark)
noncomputable def raw3 (x1 : (List Mark)) (x2 : Int) (x3 : (List Mark)) : Option (((List Mark) × (Int × ((List Mark) × Unit))) ⊕ ((List Mark) × Unit)) :=
 if (decide (x2 < ((List.length x1 : Nat) : Int))) = true then
  if (decide ((0 : Int) ≤ x2)) = true then
   if (decide (x2 < ((List.length x1 : Nat) : Int))) = true then
    if (decide ((0 : Int) ≤ x2)) = true then
     if (decide (x2 < ((List.length x3 : Nat) : Int))) = true then
      some (.inl (x1, ((IntKind.wrap .i64 (x2 + (1 : Int))), ((List.modify x3 (Int.toNat x2) (fun z => (laws_toMark (List.getD x1 (Int.toNat x2) zd27)))), ()))))
     else
      none
    else
     none
   else
    none
  else
   none
 else
  some (.inr (x3, ()))
abbrev wf (x0 : (List Mark)) : Prop := wfA [(.val (.sl 0 (.pair (.int .i64) zk28)) .f)] (x0, ())
noncomputable def raw (x0 : (List Mark)) : Option (Unit × ((List Mark) × Unit)) :=
 if (decide ((0 : Int) ≤ ((List.length x0 : Nat) : Int))) = true then
  if (decide (((List.length x0 : Nat) : Int) ≤ ((List.length x0 : Nat) : Int))) = true then
   if (decide (((List.length x0 : Nat) : Int) ≤ (4294967296 : Int))) = true then
    if (laws_toMarkS.pre3 (x0, ((0 : Int), ((List.replicate (Int.toNat ((List.length x0 : Nat) : Int)) zd27), ())))) = true then
     letB (laws_toMarkS.fn3 (x0, ((0 : Int), ((List.replicate (Int.toNat ((List.length x0 : Nat) : Int)) zd27), ())))) fun v1 =>
     some ((), v1)
    else
     none
   else
    none
  else
   none
 else
  none
theorem ok3 (x1 : List Mark) (x2 : Int) (x3 : List Mark) (hp : pre3 (x1, (x2, (x3, ()))) = true) : Rounds pre3 mu3 fn3 (x1, (x2, (x3, ()))) (raw3 x1 x2 x3) := by
  unfold raw3
  by_cases hlt : x2 < (x1.length : Int)
  · obtain ⟨h1, h2, h3⟩ := tc_facts hp hlt zd27
    simp only [letB, hlt, h1, h2, h3, decide_true, if_true]
    exact tc_step hp hlt zd27 rfl
  · rw [if_neg (by simp [hlt])]; exact tc_end hp hlt
theorem eq (x0 : List Mark) (hw : wf x0) (hp : pre x0 = true) : raw x0 = some ((), (laws_toMarkS x0, ())) := by
  have h1 : x0.length ≤ maxLen := hw.1.1
  simp only [pre, Bool.and_eq_true, small_iff] at hp
  unfold raw
  rw [if_pos (by simp), if_pos (by simp), if_pos (by simp; omega), if_pos (show pre3 _ = true from tc_start h1 hp.2 _)]
  rfl
end laws_toMarkS
theorem toMarkS_pre {xs : List Mark} (h : wL w_Mark xs ≤ 16777216) : laws_toMarkS.pre xs = true := by
  have hl := wL_nn w_Mark_nn xs
  simp only [laws_toMarkS.pre, Bool.and_eq_true, small_iff]
  exact ⟨by omega, by simp⟩
def laws_szMarkS (xs : List Mark) (l : Int) : Int := szN (wL w_Mark xs) l
namespace laws_szMarkS
def pre (_ : List Mark) (l : Int) : Bool := decide (0 ≤ l) && decide (l ≤ maxLen)
abbrev wf (x0 : (List Mark)) (x1 : Int) : Prop := wfA [(.val (.sl 0 (.pair (.int .i64) zk28)) .f), (.val (.int .i64) .f)] (x0, (x1, ()))
noncomputable def raw (x0 : (List Mark)) (x1 : Int) : Option zt22 :=
 if (decide ((IntKind.wrap .i64 (x1 - ((List.length x0 : Nat) : Int))) < (0 : Int))) = true then
  some ((), ((-1 : Int), ()))
 else
  some ((), ((IntKind.wrap .i64 (x1 - ((List.length x0 : Nat) : Int))), ()))
theorem eq (x0 : List Mark) (x1 : Int) (hw : wf x0 x1) (hp : pre x0 x1 = true) : raw x0 x1 = some ((), (laws_szMarkS x0 x1, ())) := by
  have h1 : x0.length ≤ maxLen := hw.1.1
  simp only [pre, Bool.and_eq_true, decide_eq_true_eq] at hp
  have hM := maxLen_eq
  have hnn := sumW_nn w_Mark_nn x0
  unfold raw
  rw [w64 (n := x1 - (x0.length : Int)) (by omega) (by omega)]
  by_cases c : x1 - (x0.length : Int) < 0
  · rw [if_pos (decide_eq_true c), show laws_szMarkS x0 x1 = -1 from szN_neg (by simp only [wL]; omega)]
  · have hz : sumW w_Mark x0 = 0 := sumW_zero (fun _ => rfl) x0
    rw [if_neg (by rw [decide_eq_true_eq]; exact c), show laws_szMarkS x0 x1 = x1 - (x0.length : Int) from by rw [laws_szMarkS, szN_pos (by simp only [wL]; omega)]; simp only [wL]; omega]
end laws_szMarkS
def laws_markMarkS (xs : List Mark) (k : Int) : List Mark × Int := (mkL mk_Mark cnt_Mark xs k, k + cntL cnt_Mark xs)
namespace laws_markMarkS
def pre (xs : List Mark) (k : Int) : Bool := mPre cnt_Mark xs k
def pre2 := mkPre cnt_Mark
def fn2 := mkFn mk_Mark cnt_Mark
def mu2 := mkMu (α := Mark)
noncomputable def raw2 (x1 : Int) (x2 : Int) (x3 : (List Mark)) : Option ((Int × (Int × ((List Mark) × Unit))) ⊕ (Int × ((List Mark) × Unit))) :=
 if (decide (x2 < ((List.length x3 : Nat) : Int))) = true then
  if (decide ((0 : Int) ≤ x2)) = true then
   if (decide (x2 < ((List.length x3 : Nat) : Int))) = true then
    if (decide ((0 : Int) ≤ x2)) = true then
     if (decide (x2 < ((List.length (List.modify x3 (Int.toNat x2) (fun z => (x1, z.2))) : Nat) : Int))) = true then
      some (.inl ((IntKind.wrap .i64 ((IntKind.wrap .i64 (x1 + (1 : Int))) + (1 : Int))), ((IntKind.wrap .i64 (x2 + (1 : Int))), ((List.modify (List.modify x3 (Int.toNat x2) (fun z => (x1, z.2))) (Int.toNat x2) (fun z => (z.1, ((IntKind.wrap .i64 (x1 + (1 : Int))), z.2.2)))), ()))))
     else
      none
    else
     none
   else
    none
  else
   none
 else
  some (.inr (x1, (x3, ())))
abbrev wf (x0 : (List Mark)) (x1 : Int) : Prop := wfA [(.mut (.sl 0 (.pair (.int .i64) zk28))), (.val (.int .i64) .f)] (x0, (x1, ()))
noncomputable def raw (x0 : (List Mark)) (x1 : Int) : Option (((List Mark) × Unit) × (Int × Unit)) :=
 if (laws_markMarkS.pre2 (x1, ((0 : Int), (x0, ())))) = true then
  letB (laws_markMarkS.fn2 (x1, ((0 : Int), (x0, ())))) fun v1 =>
  some (v1.2, (v1.1, ()))
 else
  none
theorem ok2 (x1 x2 : Int) (x3 : List Mark) (hp : pre2 (x1, (x2, (x3, ()))) = true) : Rounds pre2 mu2 fn2 (x1, (x2, (x3, ()))) (raw2 x1 x2 x3) := by
  unfold raw2
  by_cases hlt : x2 < (x3.length : Int)
  · obtain ⟨h0, hk, hc, hn⟩ := mk_facts mk_Mark_ok hp hlt zd27
    generalize he : x3.getD x2.toNat zd27 = e at hc
    simp only [cnt_Mark] at hc
    have w0 : IntKind.wrap .i64 (x1 + 1) = x1 + 1 := w64 (by omega) (by omega)
    have w1 : IntKind.wrap .i64 (x1 + 1 + 1) = x1 + 1 + 1 := w64 (by omega) (by omega)
    simp only [letB, List.length_modify, List.modify_modify_eq, getD_modify hn, Function.comp, hlt, h0, he, decide_true, if_true, w0, w1]
    exact mk_step mk_Mark_ok hp hlt zd27 (by rw [he]; simp only [cnt_Mark]; omega) (by rw [he]; rfl)
  · rw [if_neg (by simp [hlt])]; exact mk_end hp hlt
theorem eq (x0 : List Mark) (x1 : Int) (_ : wf x0 x1) (hp : pre x0 x1 = true) : raw x0 x1 = some (((laws_markMarkS x0 x1).1, ()), ((laws_markMarkS x0 x1).2, ())) := by
  unfold raw
  rw [if_pos (show pre2 _ = true from mk_start mk_Mark_ok hp)]
  rfl
end laws_markMarkS
theorem markMarkS_eq (xs : List Mark) (k : Int) : laws_markMarkS xs k = (mkL mk_Mark cnt_Mark xs k, k + cntL cnt_Mark xs) := rfl
theorem markMarkS_pre {xs : List Mark} {k : Int} (h0 : 0 ≤ k) (h1 : k + cntL cnt_Mark xs ≤ 134217728) : laws_markMarkS.pre xs k = true := mPre_iff.2 ⟨h0, h1⟩
noncomputable def laws_heldMarkS (xs : List Mark) (k : Int) : Int := heldN (mkL mk_Mark cnt_Mark) (cntL cnt_Mark) xs k
namespace laws_heldMarkS
def pre (xs : List Mark) (k : Int) : Bool := mPre cnt_Mark xs k
def pre2 := hePre cnt_Mark
noncomputable def fn2 := heFn mk_Mark cnt_Mark
def mu2 := heMu (α := Mark)
noncomputable def raw2 (x1 : (List Mark)) (x2 : Int) (x3 : Int) : Option (((List Mark) × Mark) ⊕ ((Int × Unit) ⊕ (Int × Unit))) :=
 if (decide (x3 < ((List.length x1 : Nat) : Int))) = true then
  if (decide ((0 : Int) ≤ x3)) = true then
   if (decide (x3 < ((List.length x1 : Nat) : Int))) = true then
    if (!(decide ((List.getD x1 (Int.toNat x3) zd27).1 = x2))) = true then
     some (.inr (.inl ((-1 : Int), ())))
    else
     if (decide ((0 : Int) ≤ x3)) = true then
      if (decide (x3 < ((List.length x1 : Nat) : Int))) = true then
       if (!(decide ((List.getD x1 (Int.toNat x3) zd27).2.1 = (IntKind.wrap .i64 (x2 + (1 : Int)))))) = true then
        some (.inr (.inl ((-1 : Int), ())))
       else
        some (.inl (x1, ((IntKind.wrap .i64 ((IntKind.wrap .i64 (x2 + (1 : Int))) + (1 : Int))), ((IntKind.wrap .i64 (x3 + (1 : Int))), ()))))
      else
       none
     else
      none
   else
    none
  else
   none
 else
  some (.inr (.inr (x2, ())))
abbrev wf (x0 : (List Mark)) (x1 : Int) : Prop := wfA [(.val (.sl 0 (.pair (.int .i64) zk28)) .f), (.val (.int .i64) .f)] (x0, (x1, ()))
noncomputable def raw (x0 : (List Mark)) (x1 : Int) : Option zt22 :=
 if (laws_heldMarkS.pre2 (x0, (x1, ((0 : Int), ())))) = true then
  letB (laws_heldMarkS.fn2 (x0, (x1, ((0 : Int), ())))) fun v1 =>
  match v1 with
  | .inl y =>
   some ((), y)
  | .inr y =>
   some ((), y)
 else
  none
theorem ok2 (x1 : List Mark) (x2 x3 : Int) (hp : pre2 (x1, (x2, (x3, ()))) = true) : Rounds pre2 mu2 fn2 (x1, (x2, (x3, ()))) (raw2 x1 x2 x3) := by
  unfold raw2
  by_cases hlt : x3 < (x1.length : Int)
  · obtain ⟨h0, hk, hc⟩ := he_facts mk_Mark_ok hp hlt zd27
    have bad := he_bad (m := mk_Mark) (g := cnt_Mark) hp hlt zd27
    have good := fun K hK => he_good mk_Mark_ok (K := K) hp hlt zd27 hK
    generalize x1.getD x3.toNat zd27 = e at *
    simp only [cnt_Mark] at hc
    have w0 : IntKind.wrap .i64 (x2 + 1) = x2 + 1 := w64 (by omega) (by omega)
    have w1 : IntKind.wrap .i64 (x2 + 1 + 1) = x2 + 1 + 1 := w64 (by omega) (by omega)
    simp only [letB, hlt, h0, decide_true, if_true, w0, w1]
    by_cases c0 : e.1 = x2
    case neg => rw [if_pos (by simp [c0])]; exact bad fun h => c0 (congrArg (fun z : Mark => z.1) h)
    rw [if_neg (by simp [c0])]
    by_cases c1 : e.2.1 = x2 + 1
    case neg => rw [if_pos (by simp [c1])]; exact bad fun h => c1 (congrArg (fun z : Mark => z.2.1) h)
    rw [if_neg (by simp [c1])]
    exact good _ (by simp only [cnt_Mark]; omega) (Prod.ext c0 (Prod.ext c1 rfl))
  · rw [if_neg (by simp [hlt])]; exact he_end hp hlt
theorem eq (x0 : List Mark) (x1 : Int) (_ : wf x0 x1) (hp : pre x0 x1 = true) : raw x0 x1 = some ((), (laws_heldMarkS x0 x1, ())) := by
  unfold raw
  rw [if_pos (show pre2 _ = true from he_start mk_Mark_ok hp)]
  exact heFn_start x0 x1
end laws_heldMarkS
theorem heldMarkS_pos {xs : List Mark} {k : Int} (h : xs = mkL mk_Mark cnt_Mark xs k) : laws_heldMarkS xs k = k + cntL cnt_Mark xs := heldN_pos h
theorem heldMarkS_neg {xs : List Mark} {k : Int} (h : ¬ xs = mkL mk_Mark cnt_Mark xs k) : laws_heldMarkS xs k = -1 := heldN_neg h
theorem heldMarkS_pre {xs : List Mark} {k : Int} (h0 : 0 ≤ k) (h1 : k + cntL cnt_Mark xs ≤ 134217728) : laws_heldMarkS.pre xs k = true := mPre_iff.2 ⟨h0, h1⟩
def mk_Item (_ : Item) (k : Int) : Item := (k, (laws_markText (k + 1), (laws_markText (k + 1 + 1), (k + 1 + 1 + 1, (k + 1 + 1 + 1 + 1, ())))))
def cnt_Item (_ : Item) : Int := 5
theorem mk_Item_ok : MkOk mk_Item cnt_Item := ⟨fun _ => by simp only [cnt_Item]; decide, fun _ _ => rfl, fun _ _ => rfl⟩
def w_Item (x : Item) : Int := (x.2.1.length : Int) + (x.2.2.1.length : Int)
theorem w_Item_nn (x : Item) : 0 ≤ w_Item x := by
  simp only [w_Item]; omega
theorem cnt_Item_le (x : Item) : cnt_Item x ≤ 32 + 32 * w_Item x := by
  simp only [w_Item, cnt_Item]; omega
noncomputable def laws_eqItem (a b : Item) : Bool := same a b
namespace laws_eqItem
abbrev wf (x0 : Item) (x1 : Item) : Prop := wfA [(.val zk15 .f), (.val zk15 .f)] (x0, (x1, ()))
noncomputable def raw (x0 : Item) (x1 : Item) : Option zt25 :=
 if (!(decide (x0.1 = x1.1))) = true then
  some ((), (false, ()))
 else
  if (!(x0.2.1 == x1.2.1)) = true then
   some ((), (false, ()))
  else
   if (!(x0.2.2.1 == x1.2.2.1)) = true then
    some ((), (false, ()))
   else
    if (!(decide (x0.2.2.2.1 = x1.2.2.2.1))) = true then
     some ((), (false, ()))
    else
     if (!(decide (x0.2.2.2.2.1 = x1.2.2.2.2.1))) = true then
      some ((), (false, ()))
     else
      some ((), (true, ()))
theorem eq (x0 x1 : Item) (_ : wf x0 x1) : raw x0 x1 = some ((), (laws_eqItem x0 x1, ())) := by
  unfold raw laws_eqItem
  try simp only [letB]
  by_cases c0 : x0.1 = x1.1
  case neg => rw [if_pos (by simp [c0]), same_false.2 (fun h => c0 (congrArg (fun z : Item => z.1) h))]
  rw [if_neg (by simp [c0])]
  by_cases c1 : x0.2.1 = x1.2.1
  case neg => rw [if_pos (by simp [c1]), same_false.2 (fun h => c1 (congrArg (fun z : Item => z.2.1) h))]
  rw [if_neg (by simp [c1])]
  by_cases c2 : x0.2.2.1 = x1.2.2.1
  case neg => rw [if_pos (by simp [c2]), same_false.2 (fun h => c2 (congrArg (fun z : Item => z.2.2.1) h))]
  rw [if_neg (by simp [c2])]
  by_cases c3 : x0.2.2.2.1 = x1.2.2.2.1
  case neg => rw [if_pos (by simp [c3]), same_false.2 (fun h => c3 (congrArg (fun z : Item => z.2.2.2.1) h))]
  rw [if_neg (by simp [c3])]
  by_cases c4 : x0.2.2.2.2.1 = x1.2.2.2.2.1
  case neg => rw [if_pos (by simp [c4]), same_false.2 (fun h => c4 (congrArg (fun z : Item => z.2.2.2.2.1) h))]
  rw [if_neg (by simp [c4])]
  rw [same_true.2 (Prod.ext c0 (Prod.ext c1 (Prod.ext c2 (Prod.ext c3 (Prod.ext c4 rfl)))))]
end laws_eqItem
def laws_toItem (x : Item) : Item := x
namespace laws_toItem
abbrev wf (x0 : Item) : Prop := wfA [(.val zk15 .f)] (x0, ())
noncomputable def raw (x0 : Item) : Option (Unit × (Item × Unit)) :=
 some ((), (x0, ()))
theorem eq (x0 : Item) (_ : wf x0) : raw x0 = some ((), (laws_toItem x0, ())) := rfl
end laws_toItem
def laws_szItem (x : Item) (l : Int) : Int := szN (w_Item x) l
namespace laws_szItem
def pre (_ : Item) (l : Int) : Bool := decide (0 ≤ l) && decide (l ≤ maxLen)
abbrev wf (x0 : Item) (x1 : Int) : Prop := wfA [(.val zk15 .f), (.val (.int .i64) .f)] (x0, (x1, ()))
noncomputable def raw (x0 : Item) (x1 : Int) : Option zt22 :=
 if (decide ((IntKind.wrap .i64 (x1 - ((List.length x0.2.1 : Nat) : Int))) < (0 : Int))) = true then
  some ((), ((-1 : Int), ()))
 else
  if (decide ((IntKind.wrap .i64 ((IntKind.wrap .i64 (x1 - ((List.length x0.2.1 : Nat) : Int))) - ((List.length x0.2.2.1 : Nat) : Int))) < (0 : Int))) = true then
   some ((), ((-1 : Int), ()))
  else
   some ((), ((IntKind.wrap .i64 ((IntKind.wrap .i64 (x1 - ((List.length x0.2.1 : Nat) : Int))) - ((List.length x0.2.2.1 : Nat) : Int))), ()))
theorem eq (x0 : Item) (x1 : Int) (hw : wf x0 x1) (hp : pre x0 x1 = true) : raw x0 x1 = some ((), (laws_szItem x0 x1, ())) := by
  simp only [pre, Bool.and_eq_true, decide_eq_true_eq] at hp
  have hM := maxLen_eq
  have t1 : x0.2.1.length ≤ maxLen := hw.1.2.1
  have t2 : x0.2.2.1.length ≤ maxLen := hw.1.2.2.1
  unfold raw
  try simp only [letB]
  rw [w64 (n := x1 - (x0.2.1.length : Int)) (by omega) (by omega)]
  by_cases c1 : x1 - (x0.2.1.length : Int) < 0
  · rw [if_pos (decide_eq_true c1), show laws_szItem x0 x1 = -1 from szN_neg (by simp only [w_Item]; omega)]
  rw [if_neg (by rw [decide_eq_true_eq]; exact c1)]
  rw [w64 (n := x1 - (x0.2.1.length : Int) - (x0.2.2.1.length : Int)) (by omega) (by omega)]
  by_cases c2 : x1 - (x0.2.1.length : Int) - (x0.2.2.1.length : Int) < 0
  · rw [if_pos (decide_eq_true c2), show laws_szItem x0 x1 = -1 from szN_neg (by simp only [w_Item]; omega)]
  rw [if_neg (by rw [decide_eq_true_eq]; exact c2)]
  rw [show laws_szItem x0 x1 = x1 - (x0.2.1.length : Int) - (x0.2.2.1.length : Int) from by rw [laws_szItem, szN_pos (by simp only [w_Item]; omega)]; simp only [w_Item]; omega]
end laws_szItem
noncomputable def laws_eqItemS (a b : List Item) : Bool := same a b
namespace laws_eqItemS
def pre4 := eqPre (α := Item)
noncomputable def fn4 := eqFn (α := Item)
def mu4 := eqMu (α := Item)
noncomputable def raw4 (x1 : (List Item)) (x2 : (List Item)) (x3 : Int) : Option (((List Item) × ((List Item) × (Int × Unit))) ⊕ ((Bool × Unit) ⊕ Unit)) :=
 if (decide (x3 < ((List.length x1 : Nat) : Int))) = true then
  if (decide ((0 : Int) ≤ x3)) = true then
   if (decide (x3 < ((List.length x1 : Nat) : Int))) = true then
    if (decide ((0 : Int) ≤ x3)) = true then
     if (decide (x3 < ((List.length x2 : Nat) : Int))) = true then
      letB (laws_eqItem (List.getD x1 (Int.toNat x3) zd12) (List.getD x2 (Int.toNat x3) zd12)) fun v1 =>
      if (!v1) = true then
       some (.inr (.inl (false, ())))
      else
       some (.inl (x1, (x2, ((IntKind.wrap .i64 (x3 + (1 : Int))), ()))))
     else
      none
    else
     none
   else
    none
  else
   none
 else
  some (.inr (.inr ()))
abbrev wf (x0 : (List Item)) (x1 : (List Item)) : Prop := wfA [(.val (.sl 0 zk15) .f), (.val (.sl 0 zk15) .f)] (x0, (x1, ()))
noncomputable def raw (x0 : (List Item)) (x1 : (List Item)) : Option zt25 :=
 if (!(decide (((List.length x0 : Nat) : Int) = ((List.length x1 : Nat) : Int)))) = true then
  some ((), (false, ()))
 else
  if (laws_eqItemS.pre4 (x0, (x1, ((0 : Int), ())))) = true then
   letB (laws_eqItemS.fn4 (x0, (x1, ((0 : Int), ())))) fun v1 =>
   match v1 with
   | .inl y =>
    some ((), y)
   | .inr y =>
    some ((), (true, ()))
  else
   none
theorem ok4 (x1 x2 : List Item) (x3 : Int) (hp : pre4 (x1, (x2, (x3, ()))) = true) : Rounds pre4 mu4 fn4 (x1, (x2, (x3, ()))) (raw4 x1 x2 x3) := by
  unfold raw4
  by_cases hlt : x3 < (x1.length : Int)
  · obtain ⟨h1, h2, h3, h4⟩ := eq_next hp hlt zd12
    simp only [letB, hlt, h1, h2, decide_true, if_true]
    by_cases h : x1.getD x3.toNat zd12 = x2.getD x3.toNat zd12
    · rw [if_neg (by rw [laws_eqItem, same_true.2 h]; simp)]; exact h3 h
    · rw [if_pos (by rw [laws_eqItem, same_false.2 h]; rfl)]; exact h4 h
  · simp only [hlt, decide_false, Bool.false_eq_true, if_false]
    exact eq_end hp hlt
theorem eq (x0 x1 : List Item) (hw : wf x0 x1) : raw x0 x1 = some ((), (laws_eqItemS x0 x1, ())) := by
  have h1 : x0.length ≤ maxLen := hw.1.1
  unfold raw laws_eqItemS
  by_cases hl : (x0.length : Int) = (x1.length : Int)
  · rw [if_neg (by simp [hl]), if_pos (show pre4 _ = true from eq_start h1 hl)]
    unfold fn4
    by_cases he : x0 = x1
    · rw [eqFn_eq he, same_true.2 he]; rfl
    · rw [eqFn_ne he, same_false.2 he]; rfl
  · have : ¬ x0 = x1 := fun h => hl (by rw [h])
    rw [if_pos (by simp [hl]), same_false.2 this]
end laws_eqItemS
def laws_toItemS (xs : List Item) : List Item := xs
namespace laws_toItemS
def pre (xs : List Item) : Bool := small xs && xs.all (fun _ => true)
noncomputable def pre3 := tcPreB (α := Item) (fun _ => true)
def fn3 := toFn (α := Item)
def mu3 := toMu (α := Item)
noncomputable def raw3 (x1 : (List Item)) (x2 : Int) (x3 : (List Item)) : Option (((List Item) × (Int × ((List Item) × Unit))) ⊕ ((List Item) × Unit)) :=
 if (decide (x2 < ((List.length x1 : Nat) : Int))) = true then
  if (decide ((0 : Int) ≤ x2)) = true then
   if (decide (x2 < ((List.length x1 : Nat) : Int))) = true then
    if (decide ((0 : Int) ≤ x2)) = true then
     if (decide (x2 < ((List.length x3 : Nat) : Int))) = true then
      some (.inl (x1, ((IntKind.wrap .i64 (x2 + (1 : Int))), ((List.modify x3 (Int.toNat x2) (fun z => (laws_toItem (List.getD x1 (Int.toNat x2) zd12)))), ()))))
     else
      none
    else
     none
   else
    none
  else
   none
 else
  some (.inr (x3, ()))
abbrev wf (x0 : (List Item)) : Prop := wfA [(.val (.sl 0 zk15) .f)] (x0, ())
noncomputable def raw (x0 : (List Item)) : Option (Unit × ((List Item) × Unit)) :=
 if (decide ((0 : Int) ≤ ((List.length x0 : Nat) : Int))) = true then
  if (decide (((List.length x0 : Nat) : Int) ≤ ((List.length x0 : Nat) : Int))) = true then
   if (decide (((List.length x0 : Nat) : Int) ≤ (4294967296 : Int))) = true then
    if (laws_toItemS.pre3 (x0, ((0 : Int), ((List.replicate (Int.toNat ((List.length x0 : Nat) : Int)) zd12), ())))) = true then
     letB (laws_toItemS.fn3 (x0, ((0 : Int), ((List.replicate (Int.toNat ((List.length x0 : Nat) : Int)) zd12), ())))) fun v1 =>
     some ((), v1)
    else
     none
   else
    none
  else
   none
 else
  none
theorem ok3 (x1 : List Item) (x2 : Int) (x3 : List Item) (hp : pre3 (x1, (x2, (x3, ()))) = true) : Rounds pre3 mu3 fn3 (x1, (x2, (x3, ()))) (raw3 x1 x2 x3) := by
  unfold raw3
  by_cases hlt : x2 < (x1.length : Int)
  · obtain ⟨h1, h2, h3⟩ := tc_facts hp hlt zd12
    simp only [letB, hlt, h1, h2, h3, decide_true, if_true]
    exact tc_step hp hlt zd12 rfl
  · rw [if_neg (by simp [hlt])]; exact tc_end hp hlt
theorem eq (x0 : List Item) (hw : wf x0) (hp : pre x0 = true) : raw x0 = some ((), (laws_toItemS x0, ())) := by
  have h1 : x0.length ≤ maxLen := hw.1.1
  simp only [pre, Bool.and_eq_true, small_iff] at hp
  unfold raw
  rw [if_pos (by simp), if_pos (by simp), if_pos (by simp; omega), if_pos (show pre3 _ = true from tc_start h1 hp.2 _)]
  rfl
end laws_toItemS
theorem toItemS_pre {xs : List Item} (h : wL w_Item xs ≤ 16777216) : laws_toItemS.pre xs = true := by
  have hl := wL_nn w_Item_nn xs
  simp only [laws_toItemS.pre, Bool.and_eq_true, small_iff]
  exact ⟨by omega, by simp⟩
def laws_szItemS (xs : List Item) (l : Int) : Int := szN (wL w_Item xs) l
namespace laws_szItemS
def pre (_ : List Item) (l : Int) : Bool := decide (0 ≤ l) && decide (l ≤ maxLen)
def pre5 := swPre (α := Item)
def fn5 := swFn w_Item
def mu5 := szMu (α := Item)
noncomputable def raw5 (x1 : (List Item)) (x2 : Int) (x3 : Int) : Option (((List Item) × Mark) ⊕ ((Int × Unit) ⊕ (Int × Unit))) :=
 if (decide (x3 < ((List.length x1 : Nat) : Int))) = true then
  if (decide ((0 : Int) ≤ x3)) = true then
   if (decide (x3 < ((List.length x1 : Nat) : Int))) = true then
    if (laws_szItem.pre (List.getD x1 (Int.toNat x3) zd12) x2) = true then
     letB (laws_szItem (List.getD x1 (Int.toNat x3) zd12) x2) fun v1 =>
     if (decide (v1 < (0 : Int))) = true then
      some (.inr (.inl ((-1 : Int), ())))
     else
      some (.inl (x1, (v1, ((IntKind.wrap .i64 (x3 + (1 : Int))), ()))))
    else
     none
   else
    none
  else
   none
 else
  some (.inr (.inr (x2, ())))
abbrev wf (x0 : (List Item)) (x1 : Int) : Prop := wfA [(.val (.sl 0 zk15) .f), (.val (.int .i64) .f)] (x0, (x1, ()))
noncomputable def raw (x0 : (List Item)) (x1 : Int) : Option zt22 :=
 if (decide ((IntKind.wrap .i64 (x1 - ((List.length x0 : Nat) : Int))) < (0 : Int))) = true then
  some ((), ((-1 : Int), ()))
 else
  if (laws_szItemS.pre5 (x0, ((IntKind.wrap .i64 (x1 - ((List.length x0 : Nat) : Int))), ((0 : Int), ())))) = true then
   letB (laws_szItemS.fn5 (x0, ((IntKind.wrap .i64 (x1 - ((List.length x0 : Nat) : Int))), ((0 : Int), ())))) fun v1 =>
   match v1 with
   | .inl y =>
    some ((), y)
   | .inr y =>
    some ((), y)
  else
   none
theorem ok5 (x1 : List Item) (x2 x3 : Int) (hp : pre5 (x1, (x2, (x3, ()))) = true) : Rounds pre5 mu5 fn5 (x1, (x2, (x3, ()))) (raw5 x1 x2 x3) := by
  unfold raw5
  by_cases hlt : x3 < (x1.length : Int)
  · obtain ⟨h0, h1, h2⟩ := sw_facts hp
    have q : laws_szItem.pre (x1.getD x3.toNat zd12) x2 = true := by simp only [laws_szItem.pre, Bool.and_eq_true, decide_eq_true_eq]; exact ⟨h1, h2⟩
    simp only [letB, hlt, h0, q, decide_true, if_true]
    by_cases c : x2 - w_Item (x1.getD x3.toNat zd12) < 0
    · rw [show laws_szItem (x1.getD x3.toNat zd12) x2 = -1 from szN_neg c, if_pos (by decide)]; exact sw_bad w_Item_nn hp hlt zd12 c
    · rw [show laws_szItem (x1.getD x3.toNat zd12) x2 = x2 - w_Item (x1.getD x3.toNat zd12) from szN_pos c, if_neg (by rw [decide_eq_true_eq]; exact c)]; exact sw_good w_Item_nn hp hlt zd12 c
  · rw [if_neg (by simp [hlt])]; exact sw_end hp hlt
theorem eq (x0 : List Item) (x1 : Int) (hw : wf x0 x1) (hp : pre x0 x1 = true) : raw x0 x1 = some ((), (laws_szItemS x0 x1, ())) := by
  have h1 : x0.length ≤ maxLen := hw.1.1
  simp only [pre, Bool.and_eq_true, decide_eq_true_eq] at hp
  have hM := maxLen_eq
  have hnn := sumW_nn w_Item_nn x0
  unfold raw
  rw [w64 (n := x1 - (x0.length : Int)) (by omega) (by omega)]
  by_cases c : x1 - (x0.length : Int) < 0
  · rw [if_pos (decide_eq_true c), show laws_szItemS x0 x1 = -1 from szN_neg (by simp only [wL]; omega)]
  · rw [if_neg (by rw [decide_eq_true_eq]; exact c), if_pos (show pre5 _ = true from sw_start h1 (by omega) (by omega))]
    exact swFn_start x0 x1
end laws_szItemS
def laws_markItemS (xs : List Item) (k : Int) : List Item × Int := (mkL mk_Item cnt_Item xs k, k + cntL cnt_Item xs)
namespace laws_markItemS
def pre (xs : List Item) (k : Int) : Bool := mPre cnt_Item xs k
def pre2 := mkPre cnt_Item
def fn2 := mkFn mk_Item cnt_Item
def mu2 := mkMu (α := Item)
noncomputable def raw2 (x1 : Int) (x2 : Int) (x3 : (List Item)) : Option (Row ⊕ (Int × ((List Item) × Unit))) :=
 if (decide (x2 < ((List.length x3 : Nat) : Int))) = true then
  if (decide ((0 : Int) ≤ x2)) = true then
   if (decide (x2 < ((List.length x3 : Nat) : Int))) = true then
    if (laws_markText.pre (IntKind.wrap .i64 (x1 + (1 : Int)))) = true then
     if (decide ((0 : Int) ≤ x2)) = true then
      if (decide (x2 < ((List.length (List.modify x3 (Int.toNat x2) (fun z => (x1, z.2))) : Nat) : Int))) = true then
       if (laws_markText.pre (IntKind.wrap .i64 ((IntKind.wrap .i64 (x1 + (1 : Int))) + (1 : Int)))) = true then
        if (decide ((0 : Int) ≤ x2)) = true then
         if (decide (x2 < ((List.length (List.modify (List.modify x3 (Int.toNat x2) (fun z => (x1, z.2))) (Int.toNat x2) (fun z => (z.1, ((laws_markText (IntKind.wrap .i64 (x1 + (1 : Int)))), z.2.2)))) : Nat) : Int))) = true then
          if (decide ((0 : Int) ≤ x2)) = true then
           if (decide (x2 < ((List.length (List.modify (List.modify (List.modify x3 (Int.toNat x2) (fun z => (x1, z.2))) (Int.toNat x2) (fun z => (z.1, ((laws_markText (IntKind.wrap .i64 (x1 + (1 : Int)))), z.2.2)))) (Int.toNat x2) (fun z => (z.1, (z.2.1, ((laws_markText (IntKind.wrap .i64 ((IntKind.wrap .i64 (x1 + (1 : Int))) + (1 : Int)))), z.2.2.2))))) : Nat) : Int))) = true then
            if (decide ((0 : Int) ≤ x2)) = true then
             if (decide (x2 < ((List.length (List.modify (List.modify (List.modify (List.modify x3 (Int.toNat x2) (fun z => (x1, z.2))) (Int.toNat x2) (fun z => (z.1, ((laws_markText (IntKind.wrap .i64 (x1 + (1 : Int)))), z.2.2)))) (Int.toNat x2) (fun z => (z.1, (z.2.1, ((laws_markText (IntKind.wrap .i64 ((IntKind.wrap .i64 (x1 + (1 : Int))) + (1 : Int)))), z.2.2.2))))) (Int.toNat x2) (fun z => (z.1, (z.2.1, (z.2.2.1, ((IntKind.wrap .i64 ((IntKind.wrap .i64 ((IntKind.wrap .i64 (x1 + (1 : Int))) + (1 : Int))) + (1 : Int))), z.2.2.2.2)))))) : Nat) : Int))) = true then
              some (.inl ((IntKind.wrap .i64 ((IntKind.wrap .i64 ((IntKind.wrap .i64 ((IntKind.wrap .i64 ((IntKind.wrap .i64 (x1 + (1 : Int))) + (1 : Int))) + (1 : Int))) + (1 : Int))) + (1 : Int))), ((IntKind.wrap .i64 (x2 + (1 : Int))), ((List.modify (List.modify (List.modify (List.modify (List.modify x3 (Int.toNat x2) (fun z => (x1, z.2))) (Int.toNat x2) (fun z => (z.1, ((laws_markText (IntKind.wrap .i64 (x1 + (1 : Int)))), z.2.2)))) (Int.toNat x2) (fun z => (z.1, (z.2.1, ((laws_markText (IntKind.wrap .i64 ((IntKind.wrap .i64 (x1 + (1 : Int))) + (1 : Int)))), z.2.2.2))))) (Int.toNat x2) (fun z => (z.1, (z.2.1, (z.2.2.1, ((IntKind.wrap .i64 ((IntKind.wrap .i64 ((IntKind.wrap .i64 (x1 + (1 : Int))) + (1 : Int))) + (1 : Int))), z.2.2.2.2)))))) (Int.toNat x2) (fun z => (z.1, (z.2.1, (z.2.2.1, (z.2.2.2.1, ((IntKind.wrap .i64 ((IntKind.wrap .i64 ((IntKind.wrap .i64 ((IntKind.wrap .i64 (x1 + (1 : Int))) + (1 : Int))) + (1 : Int))) + (1 : Int))), z.2.2.2.2.2))))))), ()))))
             else
              none
            else
             none
           else
            none
          else
           none
         else
          none
        else
         none
       else
        none
      else
       none
     else
      none
    else
     none
   else
    none
  else
   none
 else
  some (.inr (x1, (x3, ())))
abbrev wf (x0 : (List Item)) (x1 : Int) : Prop := wfA [(.mut (.sl 0 zk15)), (.val (.int .i64) .f)] (x0, (x1, ()))
noncomputable def raw (x0 : (List Item)) (x1 : Int) : Option (((List Item) × Unit) × (Int × Unit)) :=
 if (laws_markItemS.pre2 (x1, ((0 : Int), (x0, ())))) = true then
  letB (laws_markItemS.fn2 (x1, ((0 : Int), (x0, ())))) fun v1 =>
  some (v1.2, (v1.1, ()))
 else
  none
theorem ok2 (x1 x2 : Int) (x3 : List Item) (hp : pre2 (x1, (x2, (x3, ()))) = true) : Rounds pre2 mu2 fn2 (x1, (x2, (x3, ()))) (raw2 x1 x2 x3) := by
  unfold raw2
  by_cases hlt : x2 < (x3.length : Int)
  · obtain ⟨h0, hk, hc, hn⟩ := mk_facts mk_Item_ok hp hlt zd12
    generalize he : x3.getD x2.toNat zd12 = e at hc
    simp only [cnt_Item] at hc
    have w0 : IntKind.wrap .i64 (x1 + 1) = x1 + 1 := w64 (by omega) (by omega)
    have w1 : IntKind.wrap .i64 (x1 + 1 + 1) = x1 + 1 + 1 := w64 (by omega) (by omega)
    have p1 : laws_markText.pre (x1 + 1) = true := by simp only [laws_markText.pre, decide_eq_true_eq]; omega
    have w2 : IntKind.wrap .i64 (x1 + 1 + 1 + 1) = x1 + 1 + 1 + 1 := w64 (by omega) (by omega)
    have p2 : laws_markText.pre (x1 + 1 + 1) = true := by simp only [laws_markText.pre, decide_eq_true_eq]; omega
    have w3 : IntKind.wrap .i64 (x1 + 1 + 1 + 1 + 1) = x1 + 1 + 1 + 1 + 1 := w64 (by omega) (by omega)
    have w4 : IntKind.wrap .i64 (x1 + 1 + 1 + 1 + 1 + 1) = x1 + 1 + 1 + 1 + 1 + 1 := w64 (by omega) (by omega)
    simp only [letB, List.length_modify, List.modify_modify_eq, getD_modify hn, Function.comp, hlt, h0, he, decide_true, if_true, w0, w1, p1, w2, p2, w3, w4]
    exact mk_step mk_Item_ok hp hlt zd12 (by rw [he]; simp only [cnt_Item]; omega) (by rw [he]; rfl)
  · rw [if_neg (by simp [hlt])]; exact mk_end hp hlt
theorem eq (x0 : List Item) (x1 : Int) (_ : wf x0 x1) (hp : pre x0 x1 = true) : raw x0 x1 = some (((laws_markItemS x0 x1).1, ()), ((laws_markItemS x0 x1).2, ())) := by
  unfold raw
  rw [if_pos (show pre2 _ = true from mk_start mk_Item_ok hp)]
  rfl
end laws_markItemS
theorem markItemS_eq (xs : List Item) (k : Int) : laws_markItemS xs k = (mkL mk_Item cnt_Item xs k, k + cntL cnt_Item xs) := rfl
theorem markItemS_pre {xs : List Item} {k : Int} (h0 : 0 ≤ k) (h1 : k + cntL cnt_Item xs ≤ 134217728) : laws_markItemS.pre xs k = true := mPre_iff.2 ⟨h0, h1⟩
noncomputable def laws_heldItemS (xs : List Item) (k : Int) : Int := heldN (mkL mk_Item cnt_Item) (cntL cnt_Item) xs k
namespace laws_heldItemS
def pre (xs : List Item) (k : Int) : Bool := mPre cnt_Item xs k
def pre2 := hePre cnt_Item
noncomputable def fn2 := heFn mk_Item cnt_Item
def mu2 := heMu (α := Item)
noncomputable def raw2 (x1 : (List Item)) (x2 : Int) (x3 : Int) : Option (((List Item) × Mark) ⊕ ((Int × Unit) ⊕ (Int × Unit))) :=
 if (decide (x3 < ((List.length x1 : Nat) : Int))) = true then
  if (decide ((0 : Int) ≤ x3)) = true then
   if (decide (x3 < ((List.length x1 : Nat) : Int))) = true then
    if (!(decide ((List.getD x1 (Int.toNat x3) zd12).1 = x2))) = true then
     some (.inr (.inl ((-1 : Int), ())))
    else
     if (decide ((0 : Int) ≤ x3)) = true then
      if (decide (x3 < ((List.length x1 : Nat) : Int))) = true then
       if (laws_markText.pre (IntKind.wrap .i64 (x2 + (1 : Int)))) = true then
        letB (laws_markText (IntKind.wrap .i64 (x2 + (1 : Int)))) fun v1 =>
        if (!((List.getD x1 (Int.toNat x3) zd12).2.1 == v1)) = true then
         some (.inr (.inl ((-1 : Int), ())))
        else
         if (decide ((0 : Int) ≤ x3)) = true then
          if (decide (x3 < ((List.length x1 : Nat) : Int))) = true then
           if (laws_markText.pre (IntKind.wrap .i64 ((IntKind.wrap .i64 (x2 + (1 : Int))) + (1 : Int)))) = true then
            letB (laws_markText (IntKind.wrap .i64 ((IntKind.wrap .i64 (x2 + (1 : Int))) + (1 : Int)))) fun v2 =>
            if (!((List.getD x1 (Int.toNat x3) zd12).2.2.1 == v2)) = true then
             some (.inr (.inl ((-1 : Int), ())))
            else
             if (decide ((0 : Int) ≤ x3)) = true then
              if (decide (x3 < ((List.length x1 : Nat) : Int))) = true then
               if (!(decide ((List.getD x1 (Int.toNat x3) zd12).2.2.2.1 = (IntKind.wrap .i64 ((IntKind.wrap .i64 ((IntKind.wrap .i64 (x2 + (1 : Int))) + (1 : Int))) + (1 : Int)))))) = true then
                some (.inr (.inl ((-1 : Int), ())))
               else
                if (decide ((0 : Int) ≤ x3)) = true then
                 if (decide (x3 < ((List.length x1 : Nat) : Int))) = true then
                  if (!(decide ((List.getD x1 (Int.toNat x3) zd12).2.2.2.2.1 = (IntKind.wrap .i64 ((IntKind.wrap .i64 ((IntKind.wrap .i64 ((IntKind.wrap .i64 (x2 + (1 : Int))) + (1 : Int))) + (1 : Int))) + (1 : Int)))))) = true then
                   some (.inr (.inl ((-1 : Int), ())))
                  else
                   some (.inl (x1, ((IntKind.wrap .i64 ((IntKind.wrap .i64 ((IntKind.wrap .i64 ((IntKind.wrap .i64 ((IntKind.wrap .i64 (x2 + (1 : Int))) + (1 : Int))) + (1 : Int))) + (1 : Int))) + (1 : Int))), ((IntKind.wrap .i64 (x3 + (1 : Int))), ()))))
                 else
                  none
                else
                 none
              else
               none
             else
              none
           else
            none
          else
           none
         else
          none
       else
        none
      else
       none
     else
      none
   else
    none
  else
   none
 else
  some (.inr (.inr (x2, ())))
abbrev wf (x0 : (List Item)) (x1 : Int) : Prop := wfA [(.val (.sl 0 zk15) .f), (.val (.int .i64) .f)] (x0, (x1, ()))
noncomputable def raw (x0 : (List Item)) (x1 : Int) : Option zt22 :=
 if (laws_heldItemS.pre2 (x0, (x1, ((0 : Int), ())))) = true then
  letB (laws_heldItemS.fn2 (x0, (x1, ((0 : Int), ())))) fun v1 =>
  match v1 with
  | .inl y =>
   some ((), y)
  | .inr y =>
   some ((), y)
 else
  none
theorem ok2 (x1 : List Item) (x2 x3 : Int) (hp : pre2 (x1, (x2, (x3, ()))) = true) : Rounds pre2 mu2 fn2 (x1, (x2, (x3, ()))) (raw2 x1 x2 x3) := by
  unfold raw2
  by_cases hlt : x3 < (x1.length : Int)
  · obtain ⟨h0, hk, hc⟩ := he_facts mk_Item_ok hp hlt zd12
    have bad := he_bad (m := mk_Item) (g := cnt_Item) hp hlt zd12
    have good := fun K hK => he_good mk_Item_ok (K := K) hp hlt zd12 hK
    generalize x1.getD x3.toNat zd12 = e at *
    simp only [cnt_Item] at hc
    have w0 : IntKind.wrap .i64 (x2 + 1) = x2 + 1 := w64 (by omega) (by omega)
    have w1 : IntKind.wrap .i64 (x2 + 1 + 1) = x2 + 1 + 1 := w64 (by omega) (by omega)
    have p1 : laws_markText.pre (x2 + 1) = true := by simp only [laws_markText.pre, decide_eq_true_eq]; omega
    have w2 : IntKind.wrap .i64 (x2 + 1 + 1 + 1) = x2 + 1 + 1 + 1 := w64 (by omega) (by omega)
    have p2 : laws_markText.pre (x2 + 1 + 1) = true := by simp only [laws_markText.pre, decide_eq_true_eq]; omega
    have w3 : IntKind.wrap .i64 (x2 + 1 + 1 + 1 + 1) = x2 + 1 + 1 + 1 + 1 := w64 (by omega) (by omega)
    have w4 : IntKind.wrap .i64 (x2 + 1 + 1 + 1 + 1 + 1) = x2 + 1 + 1 + 1 + 1 + 1 := w64 (by omega) (by omega)
    simp only [letB, hlt, h0, decide_true, if_true, w0, w1, p1, w2, p2, w3, w4]
    by_cases c0 : e.1 = x2
    case neg => rw [if_pos (by simp [c0])]; exact bad fun h => c0 (congrArg (fun z : Item => z.1) h)
    rw [if_neg (by simp [c0])]
    by_cases c1 : e.2.1 = laws_markText (x2 + 1)
    case neg => rw [if_pos (by simp [c1])]; exact bad fun h => c1 (congrArg (fun z : Item => z.2.1) h)
    rw [if_neg (by simp [c1])]
    by_cases c2 : e.2.2.1 = laws_markText (x2 + 1 + 1)
    case neg => rw [if_pos (by simp [c2])]; exact bad fun h => c2 (congrArg (fun z : Item => z.2.2.1) h)
    rw [if_neg (by simp [c2])]
    by_cases c3 : e.2.2.2.1 = x2 + 1 + 1 + 1
    case neg => rw [if_pos (by simp [c3])]; exact bad fun h => c3 (congrArg (fun z : Item => z.2.2.2.1) h)
    rw [if_neg (by simp [c3])]
    by_cases c4 : e.2.2.2.2.1 = x2 + 1 + 1 + 1 + 1
    case neg => rw [if_pos (by simp [c4])]; exact bad fun h => c4 (congrArg (fun z : Item => z.2.2.2.2.1) h)
    rw [if_neg (by simp [c4])]
    exact good _ (by simp only [cnt_Item]; omega) (Prod.ext c0 (Prod.ext c1 (Prod.ext c2 (Prod.ext c3 (Prod.ext c4 rfl)))))
  · rw [if_neg (by simp [hlt])]; exact he_end hp hlt
theorem eq (x0 : List Item) (x1 : Int) (_ : wf x0 x1) (hp : pre x0 x1 = true) : raw x0 x1 = some ((), (laws_heldItemS x0 x1, ())) := by
  unfold raw
  rw [if_pos (show pre2 _ = true from he_start mk_Item_ok hp)]
  exact heFn_start x0 x1
end laws_heldItemS
theorem heldItemS_pos {xs : List Item} {k : Int} (h : xs = mkL mk_Item cnt_Item xs k) : laws_heldItemS xs k = k + cntL cnt_Item xs := heldN_pos h
theorem heldItemS_neg {xs : List Item} {k : Int} (h : ¬ xs = mkL mk_Item cnt_Item xs k) : laws_heldItemS xs k = -1 := heldN_neg h
theorem heldItemS_pre {xs : List Item} {k : Int} (h0 : 0 ≤ k) (h1 : k + cntL cnt_Item xs ≤ 134217728) : laws_heldItemS.pre xs k = true := mPre_iff.2 ⟨h0, h1⟩
def mk_Row (x : Row) (k : Int) : Row := (k, (k + 1, (mkL mk_Item cnt_Item x.2.2.1 (k + 1 + 1), ())))
def cnt_Row (x : Row) : Int := 2 + cntL cnt_Item x.2.2.1
theorem mk_Row_ok : MkOk mk_Row cnt_Row := by
  refine ⟨fun x => ?_, fun x k => ?_, fun x k => ?_⟩
  · have n2 := cntL_nn mk_Item_ok x.2.2.1
    simp only [cnt_Row]; omega
  · simp only [cnt_Row, mk_Row, cntL_mkL mk_Item_ok]
  · simp only [mk_Row, cntL_mkL mk_Item_ok, mkL_mkL mk_Item_ok]
def w_Row (x : Row) : Int := wL w_Item x.2.2.1
theorem w_Row_nn (x : Row) : 0 ≤ w_Row x := by
  have n2 := wL_nn w_Item_nn x.2.2.1
  simp only [w_Row]; omega
theorem cnt_Row_le (x : Row) : cnt_Row x ≤ 32 + 32 * w_Row x := by
  have n2 := cntL_le cnt_Item_le x.2.2.1
  simp only [w_Row, cnt_Row]; omega
noncomputable def laws_eqRow (a b : Row) : Bool := same a b
namespace laws_eqRow
abbrev wf (x0 : Row) (x1 : Row) : Prop := wfA [(.val zk24 .f), (.val zk24 .f)] (x0, (x1, ()))
noncomputable def raw (x0 : Row) (x1 : Row) : Option zt25 :=
 if (!(decide (x0.1 = x1.1))) = true then
  some ((), (false, ()))
 else
  if (!(decide (x0.2.1 = x1.2.1))) = true then
   some ((), (false, ()))
  else
   letB (laws_eqItemS x0.2.2.1 x1.2.2.1) fun v1 =>
   if (!v1) = true then
    some ((), (false, ()))
   else
    some ((), (true, ()))
theorem eq (x0 x1 : Row) (_ : wf x0 x1) : raw x0 x1 = some ((), (laws_eqRow x0 x1, ())) := by
  unfold raw laws_eqRow
  try simp only [letB]
  by_cases c0 : x0.1 = x1.1
  case neg => rw [if_pos (by simp [c0]), same_false.2 (fun h => c0 (congrArg (fun z : Row => z.1) h))]
  rw [if_neg (by simp [c0])]
  by_cases c1 : x0.2.1 = x1.2.1
  case neg => rw [if_pos (by simp [c1]), same_false.2 (fun h => c1 (congrArg (fun z : Row => z.2.1) h))]
  rw [if_neg (by simp [c1])]
  by_cases c2 : x0.2.2.1 = x1.2.2.1
  case neg => rw [if_pos (by rw [laws_eqItemS, same_false.2 c2]; rfl), same_false.2 (fun h => c2 (congrArg (fun z : Row => z.2.2.1) h))]
  rw [if_neg (by rw [laws_eqItemS, same_true.2 c2]; simp)]
  rw [same_true.2 (Prod.ext c0 (Prod.ext c1 (Prod.ext c2 rfl)))]
end laws_eqRow
def laws_toRow (x : Row) : Row := x
namespace laws_toRow
def pre (x : Row) : Bool := laws_toItemS.pre x.2.2.1
abbrev wf (x0 : Row) : Prop := wfA [(.val zk24 .f)] (x0, ())
noncomputable def raw (x0 : Row) : Option (Unit × (Row × Unit)) :=
 if (laws_toItemS.pre x0.2.2.1) = true then
  letB (laws_toItemS x0.2.2.1) fun v1 =>
  some ((), ((x0.1, (x0.2.1, (v1, ()))), ()))
 else
  none
theorem eq (x0 : Row) (_ : wf x0) (hp : pre x0 = true) : raw x0 = some ((), (laws_toRow x0, ())) := by
  simp only [pre, Bool.and_eq_true] at hp
  unfold raw
  try simp only [letB]
  rw [if_pos hp]
  rfl
end laws_toRow
theorem toRow_pre {x : Row} (h : w_Row x ≤ 16777216) : laws_toRow.pre x = true := by
  simp only [w_Row] at h
  have n2 := wL_nn w_Item_nn x.2.2.1
  simp only [laws_toRow.pre, Bool.and_eq_true]
  exact toItemS_pre (by omega)
def laws_szRow (x : Row) (l : Int) : Int := szN (w_Row x) l
namespace laws_szRow
def pre (_ : Row) (l : Int) : Bool := decide (0 ≤ l) && decide (l ≤ maxLen)
abbrev wf (x0 : Row) (x1 : Int) : Prop := wfA [(.val zk24 .f), (.val (.int .i64) .f)] (x0, (x1, ()))
noncomputable def raw (x0 : Row) (x1 : Int) : Option zt22 :=
 if (laws_szItemS.pre x0.2.2.1 x1) = true then
  letB (laws_szItemS x0.2.2.1 x1) fun v1 =>
  if (decide (v1 < (0 : Int))) = true then
   some ((), ((-1 : Int), ()))
  else
   some ((), (v1, ()))
 else
  none
theorem eq (x0 : Row) (x1 : Int) (hw : wf x0 x1) (hp : pre x0 x1 = true) : raw x0 x1 = some ((), (laws_szRow x0 x1, ())) := by
  simp only [pre, Bool.and_eq_true, decide_eq_true_eq] at hp
  have hM := maxLen_eq
  have t2 := wL_nn w_Item_nn x0.2.2.1
  unfold raw
  try simp only [letB]
  rw [if_pos (show laws_szItemS.pre _ _ = true by simp only [laws_szItemS.pre, Bool.and_eq_true, decide_eq_true_eq]; omega)]
  by_cases c2 : x1 - wL w_Item x0.2.2.1 < 0
  · rw [show laws_szItemS x0.2.2.1 (x1) = -1 from szN_neg c2, if_pos (by decide), show laws_szRow x0 x1 = -1 from szN_neg (by simp only [w_Row]; omega)]
  rw [show laws_szItemS x0.2.2.1 (x1) = x1 - wL w_Item x0.2.2.1 from szN_pos c2, if_neg (by rw [decide_eq_true_eq]; exact c2)]
  rw [show laws_szRow x0 x1 = x1 - wL w_Item x0.2.2.1 from by rw [laws_szRow, szN_pos (by simp only [w_Row]; omega)]; simp only [w_Row]]
end laws_szRow
noncomputable def laws_eqRowS (a b : List Row) : Bool := same a b
namespace laws_eqRowS
def pre4 := eqPre (α := Row)
noncomputable def fn4 := eqFn (α := Row)
def mu4 := eqMu (α := Row)
noncomputable def raw4 (x1 : (List Row)) (x2 : (List Row)) (x3 : Int) : Option (((List Row) × ((List Row) × (Int × Unit))) ⊕ ((Bool × Unit) ⊕ Unit)) :=
 if (decide (x3 < ((List.length x1 : Nat) : Int))) = true then
  if (decide ((0 : Int) ≤ x3)) = true then
   if (decide (x3 < ((List.length x1 : Nat) : Int))) = true then
    if (decide ((0 : Int) ≤ x3)) = true then
     if (decide (x3 < ((List.length x2 : Nat) : Int))) = true then
      letB (laws_eqRow (List.getD x1 (Int.toNat x3) zd17) (List.getD x2 (Int.toNat x3) zd17)) fun v1 =>
      if (!v1) = true then
       some (.inr (.inl (false, ())))
      else
       some (.inl (x1, (x2, ((IntKind.wrap .i64 (x3 + (1 : Int))), ()))))
     else
      none
    else
     none
   else
    none
  else
   none
 else
  some (.inr (.inr ()))
abbrev wf (x0 : (List Row)) (x1 : (List Row)) : Prop := wfA [(.val (.sl 0 zk24) .f), (.val (.sl 0 zk24) .f)] (x0, (x1, ()))
noncomputable def raw (x0 : (List Row)) (x1 : (List Row)) : Option zt25 :=
 if (!(decide (((List.length x0 : Nat) : Int) = ((List.length x1 : Nat) : Int)))) = true then
  some ((), (false, ()))
 else
  if (laws_eqRowS.pre4 (x0, (x1, ((0 : Int), ())))) = true then
   letB (laws_eqRowS.fn4 (x0, (x1, ((0 : Int), ())))) fun v1 =>
   match v1 with
   | .inl y =>
    some ((), y)
   | .inr y =>
    some ((), (true, ()))
  else
   none
theorem ok4 (x1 x2 : List Row) (x3 : Int) (hp : pre4 (x1, (x2, (x3, ()))) = true) : Rounds pre4 mu4 fn4 (x1, (x2, (x3, ()))) (raw4 x1 x2 x3) := by
  unfold raw4
  by_cases hlt : x3 < (x1.length : Int)
  · obtain ⟨h1, h2, h3, h4⟩ := eq_next hp hlt zd17
    simp only [letB, hlt, h1, h2, decide_true, if_true]
    by_cases h : x1.getD x3.toNat zd17 = x2.getD x3.toNat zd17
    · rw [if_neg (by rw [laws_eqRow, same_true.2 h]; simp)]; exact h3 h
    · rw [if_pos (by rw [laws_eqRow, same_false.2 h]; rfl)]; exact h4 h
  · simp only [hlt, decide_false, Bool.false_eq_true, if_false]
    exact eq_end hp hlt
theorem eq (x0 x1 : List Row) (hw : wf x0 x1) : raw x0 x1 = some ((), (laws_eqRowS x0 x1, ())) := by
  have h1 : x0.length ≤ maxLen := hw.1.1
  unfold raw laws_eqRowS
  by_cases hl : (x0.length : Int) = (x1.length : Int)
  · rw [if_neg (by simp [hl]), if_pos (show pre4 _ = true from eq_start h1 hl)]
    unfold fn4
    by_cases he : x0 = x1
    · rw [eqFn_eq he, same_true.2 he]; rfl
    · rw [eqFn_ne he, same_false.2 he]; rfl
  · have : ¬ x0 = x1 := fun h => hl (by rw [h])
    rw [if_pos (by simp [hl]), same_false.2 this]
end laws_eqRowS
def laws_toRowS (xs : List Row) : List Row := xs
namespace laws_toRowS
def pre (xs : List Row) : Bool := small xs && xs.all laws_toRow.pre
noncomputable def pre3 := tcPreB (α := Row) laws_toRow.pre
def fn3 := toFn (α := Row)
def mu3 := toMu (α := Row)
noncomputable def raw3 (x1 : (List Row)) (x2 : Int) (x3 : (List Row)) : Option (((List Row) × (Int × ((List Row) × Unit))) ⊕ ((List Row) × Unit)) :=
 if (decide (x2 < ((List.length x1 : Nat) : Int))) = true then
  if (decide ((0 : Int) ≤ x2)) = true then
   if (decide (x2 < ((List.length x1 : Nat) : Int))) = true then
    if (laws_toRow.pre (List.getD x1 (Int.toNat x2) zd17)) = true then
     if (decide ((0 : Int) ≤ x2)) = true then
      if (decide (x2 < ((List.length x3 : Nat) : Int))) = true then
       some (.inl (x1, ((IntKind.wrap .i64 (x2 + (1 : Int))), ((List.modify x3 (Int.toNat x2) (fun z => (laws_toRow (List.getD x1 (Int.toNat x2) zd17)))), ()))))
      else
       none
     else
      none
    else
     none
   else
    none
  else
   none
 else
  some (.inr (x3, ()))
abbrev wf (x0 : (List Row)) : Prop := wfA [(.val (.sl 0 zk24) .f)] (x0, ())
noncomputable def raw (x0 : (List Row)) : Option (Unit × ((List Row) × Unit)) :=
 if (decide ((0 : Int) ≤ ((List.length x0 : Nat) : Int))) = true then
  if (decide (((List.length x0 : Nat) : Int) ≤ ((List.length x0 : Nat) : Int))) = true then
   if (decide (((List.length x0 : Nat) : Int) ≤ (4294967296 : Int))) = true then
    if (laws_toRowS.pre3 (x0, ((0 : Int), ((List.replicate (Int.toNat ((List.length x0 : Nat) : Int)) zd17), ())))) = true then
     letB (laws_toRowS.fn3 (x0, ((0 : Int), ((List.replicate (Int.toNat ((List.length x0 : Nat) : Int)) zd17), ())))) fun v1 =>
     some ((), v1)
    else
     none
   else
    none
  else
   none
 else
  none
theorem ok3 (x1 : List Row) (x2 : Int) (x3 : List Row) (hp : pre3 (x1, (x2, (x3, ()))) = true) : Rounds pre3 mu3 fn3 (x1, (x2, (x3, ()))) (raw3 x1 x2 x3) := by
  unfold raw3
  by_cases hlt : x2 < (x1.length : Int)
  · obtain ⟨h1, h2, h3⟩ := tc_facts hp hlt zd17
    simp only [letB, hlt, h1, h2, h3, decide_true, if_true]
    exact tc_step hp hlt zd17 rfl
  · rw [if_neg (by simp [hlt])]; exact tc_end hp hlt
theorem eq (x0 : List Row) (hw : wf x0) (hp : pre x0 = true) : raw x0 = some ((), (laws_toRowS x0, ())) := by
  have h1 : x0.length ≤ maxLen := hw.1.1
  simp only [pre, Bool.and_eq_true, small_iff] at hp
  unfold raw
  rw [if_pos (by simp), if_pos (by simp), if_pos (by simp; omega), if_pos (show pre3 _ = true from tc_start h1 hp.2 _)]
  rfl
end laws_toRowS
theorem toRowS_pre {xs : List Row} (h : wL w_Row xs ≤ 16777216) : laws_toRowS.pre xs = true := by
  have hl := wL_nn w_Row_nn xs
  simp only [laws_toRowS.pre, Bool.and_eq_true, small_iff]
  refine ⟨by omega, List.all_eq_true.2 fun x hx => toRow_pre ?_⟩
  have := wL_get w_Row_nn hx
  omega
def laws_szRowS (xs : List Row) (l : Int) : Int := szN (wL w_Row xs) l
namespace laws_szRowS
def pre (_ : List Row) (l : Int) : Bool := decide (0 ≤ l) && decide (l ≤ maxLen)
def pre5 := swPre (α := Row)
def fn5 := swFn w_Row
def mu5 := szMu (α := Row)
noncomputable def raw5 (x1 : (List Row)) (x2 : Int) (x3 : Int) : Option (((List Row) × Mark) ⊕ ((Int × Unit) ⊕ (Int × Unit))) :=
 if (decide (x3 < ((List.length x1 : Nat) : Int))) = true then
  if (decide ((0 : Int) ≤ x3)) = true then
   if (decide (x3 < ((List.length x1 : Nat) : Int))) = true then
    if (laws_szRow.pre (List.getD x1 (Int.toNat x3) zd17) x2) = true then
     letB (laws_szRow (List.getD x1 (Int.toNat x3) zd17) x2) fun v1 =>
     if (decide (v1 < (0 : Int))) = true then
      some (.inr (.inl ((-1 : Int), ())))
     else
      some (.inl (x1, (v1, ((IntKind.wrap .i64 (x3 + (1 : Int))), ()))))
    else
     none
   else
    none
  else
   none
 else
  some (.inr (.inr (x2, ())))
abbrev wf (x0 : (List Row)) (x1 : Int) : Prop := wfA [(.val (.sl 0 zk24) .f), (.val (.int .i64) .f)] (x0, (x1, ()))
noncomputable def raw (x0 : (List Row)) (x1 : Int) : Option zt22 :=
 if (decide ((IntKind.wrap .i64 (x1 - ((List.length x0 : Nat) : Int))) < (0 : Int))) = true then
  some ((), ((-1 : Int), ()))
 else
  if (laws_szRowS.pre5 (x0, ((IntKind.wrap .i64 (x1 - ((List.length x0 : Nat) : Int))), ((0 : Int), ())))) = true then
   letB (laws_szRowS.fn5 (x0, ((IntKind.wrap .i64 (x1 - ((List.length x0 : Nat) : Int))), ((0 : Int), ())))) fun v1 =>
   match v1 with
   | .inl y =>
    some ((), y)
   | .inr y =>
    some ((), y)
  else
   none
theorem ok5 (x1 : List Row) (x2 x3 : Int) (hp : pre5 (x1, (x2, (x3, ()))) = true) : Rounds pre5 mu5 fn5 (x1, (x2, (x3, ()))) (raw5 x1 x2 x3) := by
  unfold raw5
  by_cases hlt : x3 < (x1.length : Int)
  · obtain ⟨h0, h1, h2⟩ := sw_facts hp
    have q : laws_szRow.pre (x1.getD x3.toNat zd17) x2 = true := by simp only [laws_szRow.pre, Bool.and_eq_true, decide_eq_true_eq]; exact ⟨h1, h2⟩
    simp only [letB, hlt, h0, q, decide_true, if_true]
    by_cases c : x2 - w_Row (x1.getD x3.toNat zd17) < 0
    · rw [show laws_szRow (x1.getD x3.toNat zd17) x2 = -1 from szN_neg c, if_pos (by decide)]; exact sw_bad w_Row_nn hp hlt zd17 c
    · rw [show laws_szRow (x1.getD x3.toNat zd17) x2 = x2 - w_Row (x1.getD x3.toNat zd17) from szN_pos c, if_neg (by rw [decide_eq_true_eq]; exact c)]; exact sw_good w_Row_nn hp hlt zd17 c
  · rw [if_neg (by simp [hlt])]; exact sw_end hp hlt
theorem eq (x0 : List Row) (x1 : Int) (hw : wf x0 x1) (hp : pre x0 x1 = true) : raw x0 x1 = some ((), (laws_szRowS x0 x1, ())) := by
  have h1 : x0.length ≤ maxLen := hw.1.1
  simp only [pre, Bool.and_eq_true, decide_eq_true_eq] at hp
  have hM := maxLen_eq
  have hnn := sumW_nn w_Row_nn x0
  unfold raw
  rw [w64 (n := x1 - (x0.length : Int)) (by omega) (by omega)]
  by_cases c : x1 - (x0.length : Int) < 0
  · rw [if_pos (decide_eq_true c), show laws_szRowS x0 x1 = -1 from szN_neg (by simp only [wL]; omega)]
  · rw [if_neg (by rw [decide_eq_true_eq]; exact c), if_pos (show pre5 _ = true from sw_start h1 (by omega) (by omega))]
    exact swFn_start x0 x1
end laws_szRowS
def laws_markRowS (xs : List Row) (k : Int) : List Row × Int := (mkL mk_Row cnt_Row xs k, k + cntL cnt_Row xs)
namespace laws_markRowS
def pre (xs : List Row) (k : Int) : Bool := mPre cnt_Row xs k
def pre2 := mkPre cnt_Row
def fn2 := mkFn mk_Row cnt_Row
def mu2 := mkMu (α := Row)
noncomputable def raw2 (x1 : Int) (x2 : Int) (x3 : (List Row)) : Option ((Int × (Int × ((List Row) × Unit))) ⊕ (Int × ((List Row) × Unit))) :=
 if (decide (x2 < ((List.length x3 : Nat) : Int))) = true then
  if (decide ((0 : Int) ≤ x2)) = true then
   if (decide (x2 < ((List.length x3 : Nat) : Int))) = true then
    if (decide ((0 : Int) ≤ x2)) = true then
     if (decide (x2 < ((List.length (List.modify x3 (Int.toNat x2) (fun z => (x1, z.2))) : Nat) : Int))) = true then
      if (decide ((0 : Int) ≤ x2)) = true then
       if (decide (x2 < ((List.length (List.modify (List.modify x3 (Int.toNat x2) (fun z => (x1, z.2))) (Int.toNat x2) (fun z => (z.1, ((IntKind.wrap .i64 (x1 + (1 : Int))), z.2.2)))) : Nat) : Int))) = true then
        if (laws_markItemS.pre (List.getD (List.modify (List.modify x3 (Int.toNat x2) (fun z => (x1, z.2))) (Int.toNat x2) (fun z => (z.1, ((IntKind.wrap .i64 (x1 + (1 : Int))), z.2.2)))) (Int.toNat x2) zd17).2.2.1 (IntKind.wrap .i64 ((IntKind.wrap .i64 (x1 + (1 : Int))) + (1 : Int)))) = true then
         letB (laws_markItemS (List.getD (List.modify (List.modify x3 (Int.toNat x2) (fun z => (x1, z.2))) (Int.toNat x2) (fun z => (z.1, ((IntKind.wrap .i64 (x1 + (1 : Int))), z.2.2)))) (Int.toNat x2) zd17).2.2.1 (IntKind.wrap .i64 ((IntKind.wrap .i64 (x1 + (1 : Int))) + (1 : Int)))) fun v1 =>
         some (.inl (v1.2, ((IntKind.wrap .i64 (x2 + (1 : Int))), ((List.modify (List.modify (List.modify x3 (Int.toNat x2) (fun z => (x1, z.2))) (Int.toNat x2) (fun z => (z.1, ((IntKind.wrap .i64 (x1 + (1 : Int))), z.2.2)))) (Int.toNat x2) (fun z => (z.1, (z.2.1, (v1.1, z.2.2.2))))), ()))))
        else
         none
       else
        none
      else
       none
     else
      none
    else
     none
   else
    none
  else
   none
 else
  some (.inr (x1, (x3, ())))
abbrev wf (x0 : (List Row)) (x1 : Int) : Prop := wfA [(.mut (.sl 0 zk24)), (.val (.int .i64) .f)] (x0, (x1, ()))
noncomputable def raw (x0 : (List Row)) (x1 : Int) : Option (((List Row) × Unit) × (Int × Unit)) :=
 if (laws_markRowS.pre2 (x1, ((0 : Int), (x0, ())))) = true then
  letB (laws_markRowS.fn2 (x1, ((0 : Int), (x0, ())))) fun v1 =>
  some (v1.2, (v1.1, ()))
 else
  none
theorem ok2 (x1 x2 : Int) (x3 : List Row) (hp : pre2 (x1, (x2, (x3, ()))) = true) : Rounds pre2 mu2 fn2 (x1, (x2, (x3, ()))) (raw2 x1 x2 x3) := by
  unfold raw2
  by_cases hlt : x2 < (x3.length : Int)
  · obtain ⟨h0, hk, hc, hn⟩ := mk_facts mk_Row_ok hp hlt zd17
    generalize he : x3.getD x2.toNat zd17 = e at hc
    simp only [cnt_Row] at hc
    have n2 := cntL_nn mk_Item_ok e.2.2.1
    have w0 : IntKind.wrap .i64 (x1 + 1) = x1 + 1 := w64 (by omega) (by omega)
    have w1 : IntKind.wrap .i64 (x1 + 1 + 1) = x1 + 1 + 1 := w64 (by omega) (by omega)
    have q2 : laws_markItemS.pre e.2.2.1 (x1 + 1 + 1) = true := markItemS_pre (by omega) (by omega)
    simp only [letB, List.length_modify, List.modify_modify_eq, getD_modify hn, Function.comp, hlt, h0, he, decide_true, if_true, w0, w1, q2, markItemS_eq]
    exact mk_step mk_Row_ok hp hlt zd17 (by rw [he]; simp only [cnt_Row]; omega) (by rw [he]; rfl)
  · rw [if_neg (by simp [hlt])]; exact mk_end hp hlt
theorem eq (x0 : List Row) (x1 : Int) (_ : wf x0 x1) (hp : pre x0 x1 = true) : raw x0 x1 = some (((laws_markRowS x0 x1).1, ()), ((laws_markRowS x0 x1).2, ())) := by
  unfold raw
  rw [if_pos (show pre2 _ = true from mk_start mk_Row_ok hp)]
  rfl
end laws_markRowS
theorem markRowS_eq (xs : List Row) (k : Int) : laws_markRowS xs k = (mkL mk_Row cnt_Row xs k, k + cntL cnt_Row xs) := rfl
theorem markRowS_pre {xs : List Row} {k : Int} (h0 : 0 ≤ k) (h1 : k + cntL cnt_Row xs ≤ 134217728) : laws_markRowS.pre xs k = true := mPre_iff.2 ⟨h0, h1⟩
noncomputable def laws_heldRowS (xs : List Row) (k : Int) : Int := heldN (mkL mk_Row cnt_Row) (cntL cnt_Row) xs k
namespace laws_heldRowS
def pre (xs : List Row) (k : Int) : Bool := mPre cnt_Row xs k
def pre2 := hePre cnt_Row
noncomputable def fn2 := heFn mk_Row cnt_Row
def mu2 := heMu (α := Row)
noncomputable def raw2 (x1 : (List Row)) (x2 : Int) (x3 : Int) : Option (((List Row) × Mark) ⊕ ((Int × Unit) ⊕ (Int × Unit))) :=
 if (decide (x3 < ((List.length x1 : Nat) : Int))) = true then
  if (decide ((0 : Int) ≤ x3)) = true then
   if (decide (x3 < ((List.length x1 : Nat) : Int))) = true then
    if (!(decide ((List.getD x1 (Int.toNat x3) zd17).1 = x2))) = true then
     some (.inr (.inl ((-1 : Int), ())))
    else
     if (decide ((0 : Int) ≤ x3)) = true then
      if (decide (x3 < ((List.length x1 : Nat) : Int))) = true then
       if (!(decide ((List.getD x1 (Int.toNat x3) zd17).2.1 = (IntKind.wrap .i64 (x2 + (1 : Int)))))) = true then
        some (.inr (.inl ((-1 : Int), ())))
       else
        if (decide ((0 : Int) ≤ x3)) = true then
         if (decide (x3 < ((List.length x1 : Nat) : Int))) = true then
          if (laws_heldItemS.pre (List.getD x1 (Int.toNat x3) zd17).2.2.1 (IntKind.wrap .i64 ((IntKind.wrap .i64 (x2 + (1 : Int))) + (1 : Int)))) = true then
           letB (laws_heldItemS (List.getD x1 (Int.toNat x3) zd17).2.2.1 (IntKind.wrap .i64 ((IntKind.wrap .i64 (x2 + (1 : Int))) + (1 : Int)))) fun v1 =>
           if (decide (v1 < (0 : Int))) = true then
            some (.inr (.inl ((-1 : Int), ())))
           else
            some (.inl (x1, (v1, ((IntKind.wrap .i64 (x3 + (1 : Int))), ()))))
          else
           none
         else
          none
        else
         none
      else
       none
     else
      none
   else
    none
  else
   none
 else
  some (.inr (.inr (x2, ())))
abbrev wf (x0 : (List Row)) (x1 : Int) : Prop := wfA [(.val (.sl 0 zk24) .f), (.val (.int .i64) .f)] (x0, (x1, ()))
noncomputable def raw (x0 : (List Row)) (x1 : Int) : Option zt22 :=
 if (laws_heldRowS.pre2 (x0, (x1, ((0 : Int), ())))) = true then
  letB (laws_heldRowS.fn2 (x0, (x1, ((0 : Int), ())))) fun v1 =>
  match v1 with
  | .inl y =>
   some ((), y)
  | .inr y =>
   some ((), y)
 else
  none
theorem ok2 (x1 : List Row) (x2 x3 : Int) (hp : pre2 (x1, (x2, (x3, ()))) = true) : Rounds pre2 mu2 fn2 (x1, (x2, (x3, ()))) (raw2 x1 x2 x3) := by
  unfold raw2
  by_cases hlt : x3 < (x1.length : Int)
  · obtain ⟨h0, hk, hc⟩ := he_facts mk_Row_ok hp hlt zd17
    have bad := he_bad (m := mk_Row) (g := cnt_Row) hp hlt zd17
    have good := fun K hK => he_good mk_Row_ok (K := K) hp hlt zd17 hK
    generalize x1.getD x3.toNat zd17 = e at *
    simp only [cnt_Row] at hc
    have n2 := cntL_nn mk_Item_ok e.2.2.1
    have w0 : IntKind.wrap .i64 (x2 + 1) = x2 + 1 := w64 (by omega) (by omega)
    have w1 : IntKind.wrap .i64 (x2 + 1 + 1) = x2 + 1 + 1 := w64 (by omega) (by omega)
    have q2 : laws_heldItemS.pre e.2.2.1 (x2 + 1 + 1) = true := heldItemS_pre (by omega) (by omega)
    simp only [letB, hlt, h0, decide_true, if_true, w0, w1, q2]
    by_cases c0 : e.1 = x2
    case neg => rw [if_pos (by simp [c0])]; exact bad fun h => c0 (congrArg (fun z : Row => z.1) h)
    rw [if_neg (by simp [c0])]
    by_cases c1 : e.2.1 = x2 + 1
    case neg => rw [if_pos (by simp [c1])]; exact bad fun h => c1 (congrArg (fun z : Row => z.2.1) h)
    rw [if_neg (by simp [c1])]
    by_cases c2 : e.2.2.1 = mkL mk_Item cnt_Item e.2.2.1 (x2 + 1 + 1)
    case neg => rw [show laws_heldItemS e.2.2.1 (x2 + 1 + 1) = -1 from heldItemS_neg c2, if_pos (by decide)]; exact bad fun h => c2 ((congrArg (fun z : Row => z.2.2.1) h).trans (by simp only [mk_Row]))
    rw [show laws_heldItemS e.2.2.1 (x2 + 1 + 1) = x2 + 1 + 1 + cntL cnt_Item e.2.2.1 from heldItemS_pos c2, if_neg (by rw [decide_eq_true_eq]; omega)]
    exact good _ (by simp only [cnt_Row]; omega) (Prod.ext c0 (Prod.ext c1 (Prod.ext c2 rfl)))
  · rw [if_neg (by simp [hlt])]; exact he_end hp hlt
theorem eq (x0 : List Row) (x1 : Int) (_ : wf x0 x1) (hp : pre x0 x1 = true) : raw x0 x1 = some ((), (laws_heldRowS x0 x1, ())) := by
  unfold raw
  rw [if_pos (show pre2 _ = true from he_start mk_Row_ok hp)]
  exact heFn_start x0 x1
end laws_heldRowS
theorem heldRowS_pos {xs : List Row} {k : Int} (h : xs = mkL mk_Row cnt_Row xs k) : laws_heldRowS xs k = k + cntL cnt_Row xs := heldN_pos h
theorem heldRowS_neg {xs : List Row} {k : Int} (h : ¬ xs = mkL mk_Row cnt_Row xs k) : laws_heldRowS xs k = -1 := heldN_neg h
theorem heldRowS_pre {xs : List Row} {k : Int} (h0 : 0 ≤ k) (h1 : k + cntL cnt_Row xs ≤ 134217728) : laws_heldRowS.pre xs k = true := mPre_iff.2 ⟨h0, h1⟩
def mk_Maker (x : Maker) (k : Int) : Maker := (k, (k + 1, (k + 1 + 1, (k + 1 + 1 + 1, (mkL mk_Mark cnt_Mark x.2.2.2.2.1 (k + 1 + 1 + 1 + 1), ())))))
def cnt_Maker (x : Maker) : Int := 4 + cntL cnt_Mark x.2.2.2.2.1
theorem mk_Maker_ok : MkOk mk_Maker cnt_Maker := by
  refine ⟨fun x => ?_, fun x k => ?_, fun x k => ?_⟩
  · have n4 := cntL_nn mk_Mark_ok x.2.2.2.2.1
    simp only [cnt_Maker]; omega
  · simp only [cnt_Maker, mk_Maker, cntL_mkL mk_Mark_ok]
  · simp only [mk_Maker, cntL_mkL mk_Mark_ok, mkL_mkL mk_Mark_ok]
def w_Maker (x : Maker) : Int := wL w_Mark x.2.2.2.2.1
theorem w_Maker_nn (x : Maker) : 0 ≤ w_Maker x := by
  have n4 := wL_nn w_Mark_nn x.2.2.2.2.1
  simp only [w_Maker]; omega
theorem cnt_Maker_le (x : Maker) : cnt_Maker x ≤ 32 + 32 * w_Maker x := by
  have n4 := cntL_le cnt_Mark_le x.2.2.2.2.1
  simp only [w_Maker, cnt_Maker]; omega
noncomputable def laws_eqMaker (a b : Maker) : Bool := same a b
namespace laws_eqMaker
abbrev wf (x0 : Maker) (x1 : Maker) : Prop := wfA [(.val zk16 .f), (.val zk16 .f)] (x0, (x1, ()))
noncomputable def raw (x0 : Maker) (x1 : Maker) : Option zt25 :=
 if (!(decide (x0.1 = x1.1))) = true then
  some ((), (false, ()))
 else
  if (!(decide (x0.2.1 = x1.2.1))) = true then
   some ((), (false, ()))
  else
   if (!(decide (x0.2.2.1 = x1.2.2.1))) = true then
    some ((), (false, ()))
   else
    if (!(decide (x0.2.2.2.1 = x1.2.2.2.1))) = true then
     some ((), (false, ()))
    else
     letB (laws_eqMarkS x0.2.2.2.2.1 x1.2.2.2.2.1) fun v1 =>
     if (!v1) = true then
      some ((), (false, ()))
     else
      some ((), (true, ()))
theorem eq (x0 x1 : Maker) (_ : wf x0 x1) : raw x0 x1 = some ((), (laws_eqMaker x0 x1, ())) := by
  unfold raw laws_eqMaker
  try simp only [letB]
  by_cases c0 : x0.1 = x1.1
  case neg => rw [if_pos (by simp [c0]), same_false.2 (fun h => c0 (congrArg (fun z : Maker => z.1) h))]
  rw [if_neg (by simp [c0])]
  by_cases c1 : x0.2.1 = x1.2.1
  case neg => rw [if_pos (by simp [c1]), same_false.2 (fun h => c1 (congrArg (fun z : Maker => z.2.1) h))]
  rw [if_neg (by simp [c1])]
  by_cases c2 : x0.2.2.1 = x1.2.2.1
  case neg => rw [if_pos (by simp [c2]), same_false.2 (fun h => c2 (congrArg (fun z : Maker => z.2.2.1) h))]
  rw [if_neg (by simp [c2])]
  by_cases c3 : x0.2.2.2.1 = x1.2.2.2.1
  case neg => rw [if_pos (by simp [c3]), same_false.2 (fun h => c3 (congrArg (fun z : Maker => z.2.2.2.1) h))]
  rw [if_neg (by simp [c3])]
  by_cases c4 : x0.2.2.2.2.1 = x1.2.2.2.2.1
  case neg => rw [if_pos (by rw [laws_eqMarkS, same_false.2 c4]; rfl), same_false.2 (fun h => c4 (congrArg (fun z : Maker => z.2.2.2.2.1) h))]
  rw [if_neg (by rw [laws_eqMarkS, same_true.2 c4]; simp)]
  rw [same_true.2 (Prod.ext c0 (Prod.ext c1 (Prod.ext c2 (Prod.ext c3 (Prod.ext c4 rfl)))))]
end laws_eqMaker
def laws_toMaker (x : Maker) : Maker := x
namespace laws_toMaker
def pre (x : Maker) : Bool := laws_toMarkS.pre x.2.2.2.2.1
abbrev wf (x0 : Maker) : Prop := wfA [(.val zk16 .f)] (x0, ())
noncomputable def raw (x0 : Maker) : Option (Unit × (Maker × Unit)) :=
 if (laws_toMarkS.pre x0.2.2.2.2.1) = true then
  letB (laws_toMarkS x0.2.2.2.2.1) fun v1 =>
  some ((), ((x0.1, (x0.2.1, (x0.2.2.1, (x0.2.2.2.1, (v1, ()))))), ()))
 else
  none
theorem eq (x0 : Maker) (_ : wf x0) (hp : pre x0 = true) : raw x0 = some ((), (laws_toMaker x0, ())) := by
  simp only [pre, Bool.and_eq_true] at hp
  unfold raw
  try simp only [letB]
  rw [if_pos hp]
  rfl
end laws_toMaker
theorem toMaker_pre {x : Maker} (h : w_Maker x ≤ 16777216) : laws_toMaker.pre x = true := by
  simp only [w_Maker] at h
  have n4 := wL_nn w_Mark_nn x.2.2.2.2.1
  simp only [laws_toMaker.pre, Bool.and_eq_true]
  exact toMarkS_pre (by omega)
def laws_szMaker (x : Maker) (l : Int) : Int := szN (w_Maker x) l
namespace laws_szMaker
def pre (_ : Maker) (l : Int) : Bool := decide (0 ≤ l) && decide (l ≤ maxLen)
abbrev wf (x0 : Maker) (x1 : Int) : Prop := wfA [(.val zk16 .f), (.val (.int .i64) .f)] (x0, (x1, ()))
noncomputable def raw (x0 : Maker) (x1 : Int) : Option zt22 :=
 if (laws_szMarkS.pre x0.2.2.2.2.1 x1) = true then
  letB (laws_szMarkS x0.2.2.2.2.1 x1) fun v1 =>
  if (decide (v1 < (0 : Int))) = true then
   some ((), ((-1 : Int), ()))
  else
   some ((), (v1, ()))
 else
  none
theorem eq (x0 : Maker) (x1 : Int) (hw : wf x0 x1) (hp : pre x0 x1 = true) : raw x0 x1 = some ((), (laws_szMaker x0 x1, ())) := by
  simp only [pre, Bool.and_eq_true, decide_eq_true_eq] at hp
  have hM := maxLen_eq
  have t4 := wL_nn w_Mark_nn x0.2.2.2.2.1
  unfold raw
  try simp only [letB]
  rw [if_pos (show laws_szMarkS.pre _ _ = true by simp only [laws_szMarkS.pre, Bool.and_eq_true, decide_eq_true_eq]; omega)]
  by_cases c4 : x1 - wL w_Mark x0.2.2.2.2.1 < 0
  · rw [show laws_szMarkS x0.2.2.2.2.1 (x1) = -1 from szN_neg c4, if_pos (by decide), show laws_szMaker x0 x1 = -1 from szN_neg (by simp only [w_Maker]; omega)]
  rw [show laws_szMarkS x0.2.2.2.2.1 (x1) = x1 - wL w_Mark x0.2.2.2.2.1 from szN_pos c4, if_neg (by rw [decide_eq_true_eq]; exact c4)]
  rw [show laws_szMaker x0 x1 = x1 - wL w_Mark x0.2.2.2.2.1 from by rw [laws_szMaker, szN_pos (by simp only [w_Maker]; omega)]; simp only [w_Maker]]
end laws_szMaker
noncomputable def laws_eqMakerS (a b : List Maker) : Bool := same a b
namespace laws_eqMakerS
def pre4 := eqPre (α := Maker)
noncomputable def fn4 := eqFn (α := Maker)
def mu4 := eqMu (α := Maker)
noncomputable def raw4 (x1 : (List Maker)) (x2 : (List Maker)) (x3 : Int) : Option (((List Maker) × ((List Maker) × (Int × Unit))) ⊕ ((Bool × Unit) ⊕ Unit)) :=
 if (decide (x3 < ((List.length x1 : Nat) : Int))) = true then
  if (decide ((0 : Int) ≤ x3)) = true then
   if (decide (x3 < ((List.length x1 : Nat) : Int))) = true then
    if (decide ((0 : Int) ≤ x3)) = true then
     if (decide (x3 < ((List.length x2 : Nat) : Int))) = true then
      letB (laws_eqMaker (List.getD x1 (Int.toNat x3) zd11) (List.getD x2 (Int.toNat x3) zd11)) fun v1 =>
      if (!v1) = true then
       some (.inr (.inl (false, ())))
      else
       some (.inl (x1, (x2, ((IntKind.wrap .i64 (x3 + (1 : Int))), ()))))
     else
      none
    else
     none
   else
    none
  else
   none
 else
  some (.inr (.inr ()))
abbrev wf (x0 : (List Maker)) (x1 : (List Maker)) : Prop := wfA [(.val (.sl 0 zk16) .f), (.val (.sl 0 zk16) .f)] (x0, (x1, ()))
noncomputable def raw (x0 : (List Maker)) (x1 : (List Maker)) : Option zt25 :=
 if (!(decide (((List.length x0 : Nat) : Int) = ((List.length x1 : Nat) : Int)))) = true then
  some ((), (false, ()))
 else
  if (laws_eqMakerS.pre4 (x0, (x1, ((0 : Int), ())))) = true then
   letB (laws_eqMakerS.fn4 (x0, (x1, ((0 : Int), ())))) fun v1 =>
   match v1 with
   | .inl y =>
    some ((), y)
   | .inr y =>
    some ((), (true, ()))
  else
   none
theorem ok4 (x1 x2 : List Maker) (x3 : Int) (hp : pre4 (x1, (x2, (x3, ()))) = true) : Rounds pre4 mu4 fn4 (x1, (x2, (x3, ()))) (raw4 x1 x2 x3) := by
  unfold raw4
  by_cases hlt : x3 < (x1.length : Int)
  · obtain ⟨h1, h2, h3, h4⟩ := eq_next hp hlt zd11
    simp only [letB, hlt, h1, h2, decide_true, if_true]
    by_cases h : x1.getD x3.toNat zd11 = x2.getD x3.toNat zd11
    · rw [if_neg (by rw [laws_eqMaker, same_true.2 h]; simp)]; exact h3 h
    · rw [if_pos (by rw [laws_eqMaker, same_false.2 h]; rfl)]; exact h4 h
  · simp only [hlt, decide_false, Bool.false_eq_true, if_false]
    exact eq_end hp hlt
theorem eq (x0 x1 : List Maker) (hw : wf x0 x1) : raw x0 x1 = some ((), (laws_eqMakerS x0 x1, ())) := by
  have h1 : x0.length ≤ maxLen := hw.1.1
  unfold raw laws_eqMakerS
  by_cases hl : (x0.length : Int) = (x1.length : Int)
  · rw [if_neg (by simp [hl]), if_pos (show pre4 _ = true from eq_start h1 hl)]
    unfold fn4
    by_cases he : x0 = x1
    · rw [eqFn_eq he, same_true.2 he]; rfl
    · rw [eqFn_ne he, same_false.2 he]; rfl
  · have : ¬ x0 = x1 := fun h => hl (by rw [h])
    rw [if_pos (by simp [hl]), same_false.2 this]
end laws_eqMakerS
def laws_toMakerS (xs : List Maker) : List Maker := xs
namespace laws_toMakerS
def pre (xs : List Maker) : Bool := small xs && xs.all laws_toMaker.pre
noncomputable def pre3 := tcPreB (α := Maker) laws_toMaker.pre
def fn3 := toFn (α := Maker)
def mu3 := toMu (α := Maker)
noncomputable def raw3 (x1 : (List Maker)) (x2 : Int) (x3 : (List Maker)) : Option (((List Maker) × (Int × zt33)) ⊕ zt33) :=
 if (decide (x2 < ((List.length x1 : Nat) : Int))) = true then
  if (decide ((0 : Int) ≤ x2)) = true then
   if (decide (x2 < ((List.length x1 : Nat) : Int))) = true then
    if (laws_toMaker.pre (List.getD x1 (Int.toNat x2) zd11)) = true then
     if (decide ((0 : Int) ≤ x2)) = true then
      if (decide (x2 < ((List.length x3 : Nat) : Int))) = true then
       some (.inl (x1, ((IntKind.wrap .i64 (x2 + (1 : Int))), ((List.modify x3 (Int.toNat x2) (fun z => (laws_toMaker (List.getD x1 (Int.toNat x2) zd11)))), ()))))
      else
       none
     else
      none
    else
     none
   else
    none
  else
   none
 else
  some (.inr (x3, ()))
abbrev wf (x0 : (List Maker)) : Prop := wfA [(.val (.sl 0 zk16) .f)] (x0, ())
noncomputable def raw (x0 : (List Maker)) : Option (Unit × zt33) :=
 if (decide ((0 : Int) ≤ ((List.length x0 : Nat) : Int))) = true then
  if (decide (((List.length x0 : Nat) : Int) ≤ ((List.length x0 : Nat) : Int))) = true then
   if (decide (((List.length x0 : Nat) : Int) ≤ (4294967296 : Int))) = true then
    if (laws_toMakerS.pre3 (x0, ((0 : Int), ((List.replicate (Int.toNat ((List.length x0 : Nat) : Int)) zd11), ())))) = true then
     letB (laws_toMakerS.fn3 (x0, ((0 : Int), ((List.replicate (Int.toNat ((List.length x0 : Nat) : Int)) zd11), ())))) fun v1 =>
     some ((), v1)
    else
     none
   else
    none
  else
   none
 else
  none
theorem ok3 (x1 : List Maker) (x2 : Int) (x3 : List Maker) (hp : pre3 (x1, (x2, (x3, ()))) = true) : Rounds pre3 mu3 fn3 (x1, (x2, (x3, ()))) (raw3 x1 x2 x3) := by
  unfold raw3
  by_cases hlt : x2 < (x1.length : Int)
  · obtain ⟨h1, h2, h3⟩ := tc_facts hp hlt zd11
    simp only [letB, hlt, h1, h2, h3, decide_true, if_true]
    exact tc_step hp hlt zd11 rfl
  · rw [if_neg (by simp [hlt])]; exact tc_end hp hlt
theorem eq (x0 : List Maker) (hw : wf x0) (hp : pre x0 = true) : raw x0 = some ((), (laws_toMakerS x0, ())) := by
  have h1 : x0.length ≤ maxLen := hw.1.1
  simp only [pre, Bool.and_eq_true, small_iff] at hp
  unfold raw
  rw [if_pos (by simp), if_pos (by simp), if_pos (by simp; omega), if_pos (show pre3 _ = true from tc_start h1 hp.2 _)]
  rfl
end laws_toMakerS
theorem toMakerS_pre {xs : List Maker} (h : wL w_Maker xs ≤ 16777216) : laws_toMakerS.pre xs = true := by
  have hl := wL_nn w_Maker_nn xs
  simp only [laws_toMakerS.pre, Bool.and_eq_true, small_iff]
  refine ⟨by omega, List.all_eq_true.2 fun x hx => toMaker_pre ?_⟩
  have := wL_get w_Maker_nn hx
  omega
def laws_szMakerS (xs : List Maker) (l : Int) : Int := szN (wL w_Maker xs) l
namespace laws_szMakerS
def pre (_ : List Maker) (l : Int) : Bool := decide (0 ≤ l) && decide (l ≤ maxLen)
def pre5 := swPre (α := Maker)
def fn5 := swFn w_Maker
def mu5 := szMu (α := Maker)
noncomputable def raw5 (x1 : (List Maker)) (x2 : Int) (x3 : Int) : Option (((List Maker) × Mark) ⊕ ((Int × Unit) ⊕ (Int × Unit))) :=
 if (decide (x3 < ((List.length x1 : Nat) : Int))) = true then
  if (decide ((0 : Int) ≤ x3)) = true then
   if (decide (x3 < ((List.length x1 : Nat) : Int))) = true then
    if (laws_szMaker.pre (List.getD x1 (Int.toNat x3) zd11) x2) = true then
     letB (laws_szMaker (List.getD x1 (Int.toNat x3) zd11) x2) fun v1 =>
     if (decide (v1 < (0 : Int))) = true then
      some (.inr (.inl ((-1 : Int), ())))
     else
      some (.inl (x1, (v1, ((IntKind.wrap .i64 (x3 + (1 : Int))), ()))))
    else
     none
   else
    none
  else
   none
 else
  some (.inr (.inr (x2, ())))
abbrev wf (x0 : (List Maker)) (x1 : Int) : Prop := wfA [(.val (.sl 0 zk16) .f), (.val (.int .i64) .f)] (x0, (x1, ()))
noncomputable def raw (x0 : (List Maker)) (x1 : Int) : Option zt22 :=
 if (decide ((IntKind.wrap .i64 (x1 - ((List.length x0 : Nat) : Int))) < (0 : Int))) = true then
  some ((), ((-1 : Int), ()))
 else
  if (laws_szMakerS.pre5 (x0, ((IntKind.wrap .i64 (x1 - ((List.length x0 : Nat) : Int))), ((0 : Int), ())))) = true then
   letB (laws_szMakerS.fn5 (x0, ((IntKind.wrap .i64 (x1 - ((List.length x0 : Nat) : Int))), ((0 : Int), ())))) fun v1 =>
   match v1 with
   | .inl y =>
    some ((), y)
   | .inr y =>
    some ((), y)
  else
   none
theorem ok5 (x1 : List Maker) (x2 x3 : Int) (hp : pre5 (x1, (x2, (x3, ()))) = true) : Rounds pre5 mu5 fn5 (x1, (x2, (x3, ()))) (raw5 x1 x2 x3) := by
  unfold raw5
  by_cases hlt : x3 < (x1.length : Int)
  · obtain ⟨h0, h1, h2⟩ := sw_facts hp
    have q : laws_szMaker.pre (x1.getD x3.toNat zd11) x2 = true := by simp only [laws_szMaker.pre, Bool.and_eq_true, decide_eq_true_eq]; exact ⟨h1, h2⟩
    simp only [letB, hlt, h0, q, decide_true, if_true]
    by_cases c : x2 - w_Maker (x1.getD x3.toNat zd11) < 0
    · rw [show laws_szMaker (x1.getD x3.toNat zd11) x2 = -1 from szN_neg c, if_pos (by decide)]; exact sw_bad w_Maker_nn hp hlt zd11 c
    · rw [show laws_szMaker (x1.getD x3.toNat zd11) x2 = x2 - w_Maker (x1.getD x3.toNat zd11) from szN_pos c, if_neg (by rw [decide_eq_true_eq]; exact c)]; exact sw_good w_Maker_nn hp hlt zd11 c
  · rw [if_neg (by simp [hlt])]; exact sw_end hp hlt
theorem eq (x0 : List Maker) (x1 : Int) (hw : wf x0 x1) (hp : pre x0 x1 = true) : raw x0 x1 = some ((), (laws_szMakerS x0 x1, ())) := by
  have h1 : x0.length ≤ maxLen := hw.1.1
  simp only [pre, Bool.and_eq_true, decide_eq_true_eq] at hp
  have hM := maxLen_eq
  have hnn := sumW_nn w_Maker_nn x0
  unfold raw
  rw [w64 (n := x1 - (x0.length : Int)) (by omega) (by omega)]
  by_cases c : x1 - (x0.length : Int) < 0
  · rw [if_pos (decide_eq_true c), show laws_szMakerS x0 x1 = -1 from szN_neg (by simp only [wL]; omega)]
  · rw [if_neg (by rw [decide_eq_true_eq]; exact c), if_pos (show pre5 _ = true from sw_start h1 (by omega) (by omega))]
    exact swFn_start x0 x1
end laws_szMakerS
def laws_markMakerS (xs : List Maker) (k : Int) : List Maker × Int := (mkL mk_Maker cnt_Maker xs k, k + cntL cnt_Maker xs)
namespace laws_markMakerS
def pre (xs : List Maker) (k : Int) : Bool := mPre cnt_Maker xs k
def pre2 := mkPre cnt_Maker
def fn2 := mkFn mk_Maker cnt_Maker
def mu2 := mkMu (α := Maker)
noncomputable def raw2 (x1 : Int) (x2 : Int) (x3 : (List Maker)) : Option ((Int × (Int × zt33)) ⊕ (Int × zt33)) :=
 if (decide (x2 < ((List.length x3 : Nat) : Int))) = true then
  if (decide ((0 : Int) ≤ x2)) = true then
   if (decide (x2 < ((List.length x3 : Nat) : Int))) = true then
    if (decide ((0 : Int) ≤ x2)) = true then
     if (decide (x2 < ((List.length (List.modify x3 (Int.toNat x2) (fun z => (x1, z.2))) : Nat) : Int))) = true then
      if (decide ((0 : Int) ≤ x2)) = true then
       if (decide (x2 < ((List.length (List.modify (List.modify x3 (Int.toNat x2) (fun z => (x1, z.2))) (Int.toNat x2) (fun z => (z.1, ((IntKind.wrap .i64 (x1 + (1 : Int))), z.2.2)))) : Nat) : Int))) = true then
        if (decide ((0 : Int) ≤ x2)) = true then
         if (decide (x2 < ((List.length (List.modify (List.modify (List.modify x3 (Int.toNat x2) (fun z => (x1, z.2))) (Int.toNat x2) (fun z => (z.1, ((IntKind.wrap .i64 (x1 + (1 : Int))), z.2.2)))) (Int.toNat x2) (fun z => (z.1, (z.2.1, ((IntKind.wrap .i64 ((IntKind.wrap .i64 (x1 + (1 : Int))) + (1 : Int))), z.2.2.2))))) : Nat) : Int))) = true then
          if (decide ((0 : Int) ≤ x2)) = true then
           if (decide (x2 < ((List.length (List.modify (List.modify (List.modify (List.modify x3 (Int.toNat x2) (fun z => (x1, z.2))) (Int.toNat x2) (fun z => (z.1, ((IntKind.wrap .i64 (x1 + (1 : Int))), z.2.2)))) (Int.toNat x2) (fun z => (z.1, (z.2.1, ((IntKind.wrap .i64 ((IntKind.wrap .i64 (x1 + (1 : Int))) + (1 : Int))), z.2.2.2))))) (Int.toNat x2) (fun z => (z.1, (z.2.1, (z.2.2.1, ((IntKind.wrap .i64 ((IntKind.wrap .i64 ((IntKind.wrap .i64 (x1 + (1 : Int))) + (1 : Int))) + (1 : Int))), z.2.2.2.2)))))) : Nat) : Int))) = true then
            if (laws_markMarkS.pre (List.getD (List.modify (List.modify (List.modify (List.modify x3 (Int.toNat x2) (fun z => (x1, z.2))) (Int.toNat x2) (fun z => (z.1, ((IntKind.wrap .i64 (x1 + (1 : Int))), z.2.2)))) (Int.toNat x2) (fun z => (z.1, (z.2.1, ((IntKind.wrap .i64 ((IntKind.wrap .i64 (x1 + (1 : Int))) + (1 : Int))), z.2.2.2))))) (Int.toNat x2) (fun z => (z.1, (z.2.1, (z.2.2.1, ((IntKind.wrap .i64 ((IntKind.wrap .i64 ((IntKind.wrap .i64 (x1 + (1 : Int))) + (1 : Int))) + (1 : Int))), z.2.2.2.2)))))) (Int.toNat x2) zd11).2.2.2.2.1 (IntKind.wrap .i64 ((IntKind.wrap .i64 ((IntKind.wrap .i64 ((IntKind.wrap .i64 (x1 + (1 : Int))) + (1 : Int))) + (1 : Int))) + (1 : Int)))) = true then
             letB (laws_markMarkS (List.getD (List.modify (List.modify (List.modify (List.modify x3 (Int.toNat x2) (fun z => (x1, z.2))) (Int.toNat x2) (fun z => (z.1, ((IntKind.wrap .i64 (x1 + (1 : Int))), z.2.2)))) (Int.toNat x2) (fun z => (z.1, (z.2.1, ((IntKind.wrap .i64 ((IntKind.wrap .i64 (x1 + (1 : Int))) + (1 : Int))), z.2.2.2))))) (Int.toNat x2) (fun z => (z.1, (z.2.1, (z.2.2.1, ((IntKind.wrap .i64 ((IntKind.wrap .i64 ((IntKind.wrap .i64 (x1 + (1 : Int))) + (1 : Int))) + (1 : Int))), z.2.2.2.2)))))) (Int.toNat x2) zd11).2.2.2.2.1 (IntKind.wrap .i64 ((IntKind.wrap .i64 ((IntKind.wrap .i64 ((IntKind.wrap .i64 (x1 + (1 : Int))) + (1 : Int))) + (1 : Int))) + (1 : Int)))) fun v1 =>
             some (.inl (v1.2, ((IntKind.wrap .i64 (x2 + (1 : Int))), ((List.modify (List.modify (List.modify (List.modify (List.modify x3 (Int.toNat x2) (fun z => (x1, z.2))) (Int.toNat x2) (fun z => (z.1, ((IntKind.wrap .i64 (x1 + (1 : Int))), z.2.2)))) (Int.toNat x2) (fun z => (z.1, (z.2.1, ((IntKind.wrap .i64 ((IntKind.wrap .i64 (x1 + (1 : Int))) + (1 : Int))), z.2.2.2))))) (Int.toNat x2) (fun z => (z.1, (z.2.1, (z.2.2.1, ((IntKind.wrap .i64 ((IntKind.wrap .i64 ((IntKind.wrap .i64 (x1 + (1 : Int))) + (1 : Int))) + (1 : Int))), z.2.2.2.2)))))) (Int.toNat x2) (fun z => (z.1, (z.2.1, (z.2.2.1, (z.2.2.2.1, (v1.1, z.2.2.2.2.2))))))), ()))))
            else
             none
           else
            none
          else
           none
         else
          none
        else
         none
       else
        none
      else
       none
     else
      none
    else
     none
   else
    none
  else
   none
 else
  some (.inr (x1, (x3, ())))
abbrev wf (x0 : (List Maker)) (x1 : Int) : Prop := wfA [(.mut (.sl 0 zk16)), (.val (.int .i64) .f)] (x0, (x1, ()))
noncomputable def raw (x0 : (List Maker)) (x1 : Int) : Option (zt33 × (Int × Unit)) :=
 if (laws_markMakerS.pre2 (x1, ((0 : Int), (x0, ())))) = true then
  letB (laws_markMakerS.fn2 (x1, ((0 : Int), (x0, ())))) fun v1 =>
  some (v1.2, (v1.1, ()))
 else
  none
theorem ok2 (x1 x2 : Int) (x3 : List Maker) (hp : pre2 (x1, (x2, (x3, ()))) = true) : Rounds pre2 mu2 fn2 (x1, (x2, (x3, ()))) (raw2 x1 x2 x3) := by
  unfold raw2
  by_cases hlt : x2 < (x3.length : Int)
  · obtain ⟨h0, hk, hc, hn⟩ := mk_facts mk_Maker_ok hp hlt zd11
    generalize he : x3.getD x2.toNat zd11 = e at hc
    simp only [cnt_Maker] at hc
    have n4 := cntL_nn mk_Mark_ok e.2.2.2.2.1
    have w0 : IntKind.wrap .i64 (x1 + 1) = x1 + 1 := w64 (by omega) (by omega)
    have w1 : IntKind.wrap .i64 (x1 + 1 + 1) = x1 + 1 + 1 := w64 (by omega) (by omega)
    have w2 : IntKind.wrap .i64 (x1 + 1 + 1 + 1) = x1 + 1 + 1 + 1 := w64 (by omega) (by omega)
    have w3 : IntKind.wrap .i64 (x1 + 1 + 1 + 1 + 1) = x1 + 1 + 1 + 1 + 1 := w64 (by omega) (by omega)
    have q4 : laws_markMarkS.pre e.2.2.2.2.1 (x1 + 1 + 1 + 1 + 1) = true := markMarkS_pre (by omega) (by omega)
    simp only [letB, List.length_modify, List.modify_modify_eq, getD_modify hn, Function.comp, hlt, h0, he, decide_true, if_true, w0, w1, w2, w3, q4, markMarkS_eq]
    exact mk_step mk_Maker_ok hp hlt zd11 (by rw [he]; simp only [cnt_Maker]; omega) (by rw [he]; rfl)
  · rw [if_neg (by simp [hlt])]; exact mk_end hp hlt
theorem eq (x0 : List Maker) (x1 : Int) (_ : wf x0 x1) (hp : pre x0 x1 = true) : raw x0 x1 = some (((laws_markMakerS x0 x1).1, ()), ((laws_markMakerS x0 x1).2, ())) := by
  unfold raw
  rw [if_pos (show pre2 _ = true from mk_start mk_Maker_ok hp)]
  rfl
end laws_markMakerS
theorem markMakerS_eq (xs : List Maker) (k : Int) : laws_markMakerS xs k = (mkL mk_Maker cnt_Maker xs k, k + cntL cnt_Maker xs) := rfl
theorem markMakerS_pre {xs : List Maker} {k : Int} (h0 : 0 ≤ k) (h1 : k + cntL cnt_Maker xs ≤ 134217728) : laws_markMakerS.pre xs k = true := mPre_iff.2 ⟨h0, h1⟩
noncomputable def laws_heldMakerS (xs : List Maker) (k : Int) : Int := heldN (mkL mk_Maker cnt_Maker) (cntL cnt_Maker) xs k
namespace laws_heldMakerS
def pre (xs : List Maker) (k : Int) : Bool := mPre cnt_Maker xs k
def pre2 := hePre cnt_Maker
noncomputable def fn2 := heFn mk_Maker cnt_Maker
def mu2 := heMu (α := Maker)
noncomputable def raw2 (x1 : (List Maker)) (x2 : Int) (x3 : Int) : Option (((List Maker) × Mark) ⊕ ((Int × Unit) ⊕ (Int × Unit))) :=
 if (decide (x3 < ((List.length x1 : Nat) : Int))) = true then
  if (decide ((0 : Int) ≤ x3)) = true then
   if (decide (x3 < ((List.length x1 : Nat) : Int))) = true then
    if (!(decide ((List.getD x1 (Int.toNat x3) zd11).1 = x2))) = true then
     some (.inr (.inl ((-1 : Int), ())))
    else
     if (decide ((0 : Int) ≤ x3)) = true then
      if (decide (x3 < ((List.length x1 : Nat) : Int))) = true then
       if (!(decide ((List.getD x1 (Int.toNat x3) zd11).2.1 = (IntKind.wrap .i64 (x2 + (1 : Int)))))) = true then
        some (.inr (.inl ((-1 : Int), ())))
       else
        if (decide ((0 : Int) ≤ x3)) = true then
         if (decide (x3 < ((List.length x1 : Nat) : Int))) = true then
          if (!(decide ((List.getD x1 (Int.toNat x3) zd11).2.2.1 = (IntKind.wrap .i64 ((IntKind.wrap .i64 (x2 + (1 : Int))) + (1 : Int)))))) = true then
           some (.inr (.inl ((-1 : Int), ())))
          else
           if (decide ((0 : Int) ≤ x3)) = true then
            if (decide (x3 < ((List.length x1 : Nat) : Int))) = true then
             if (!(decide ((List.getD x1 (Int.toNat x3) zd11).2.2.2.1 = (IntKind.wrap .i64 ((IntKind.wrap .i64 ((IntKind.wrap .i64 (x2 + (1 : Int))) + (1 : Int))) + (1 : Int)))))) = true then
              some (.inr (.inl ((-1 : Int), ())))
             else
              if (decide ((0 : Int) ≤ x3)) = true then
               if (decide (x3 < ((List.length x1 : Nat) : Int))) = true then
                if (laws_heldMarkS.pre (List.getD x1 (Int.toNat x3) zd11).2.2.2.2.1 (IntKind.wrap .i64 ((IntKind.wrap .i64 ((IntKind.wrap .i64 ((IntKind.wrap .i64 (x2 + (1 : Int))) + (1 : Int))) + (1 : Int))) + (1 : Int)))) = true then
                 letB (laws_heldMarkS (List.getD x1 (Int.toNat x3) zd11).2.2.2.2.1 (IntKind.wrap .i64 ((IntKind.wrap .i64 ((IntKind.wrap .i64 ((IntKind.wrap .i64 (x2 + (1 : Int))) + (1 : Int))) + (1 : Int))) + (1 : Int)))) fun v1 =>
                 if (decide (v1 < (0 : Int))) = true then
                  some (.inr (.inl ((-1 : Int), ())))
                 else
                  some (.inl (x1, (v1, ((IntKind.wrap .i64 (x3 + (1 : Int))), ()))))
                else
                 none
               else
                none
              else
               none
            else
             none
           else
            none
         else
          none
        else
         none
      else
       none
     else
      none
   else
    none
  else
   none
 else
  some (.inr (.inr (x2, ())))
abbrev wf (x0 : (List Maker)) (x1 : Int) : Prop := wfA [(.val (.sl 0 zk16) .f), (.val (.int .i64) .f)] (x0, (x1, ()))
noncomputable def raw (x0 : (List Maker)) (x1 : Int) : Option zt22 :=
 if (laws_heldMakerS.pre2 (x0, (x1, ((0 : Int), ())))) = true then
  letB (laws_heldMakerS.fn2 (x0, (x1, ((0 : Int), ())))) fun v1 =>
  match v1 with
  | .inl y =>
   some ((), y)
  | .inr y =>
   some ((), y)
 else
  none
theorem ok2 (x1 : List Maker) (x2 x3 : Int) (hp : pre2 (x1, (x2, (x3, ()))) = true) : Rounds pre2 mu2 fn2 (x1, (x2, (x3, ()))) (raw2 x1 x2 x3) := by
  unfold raw2
  by_cases hlt : x3 < (x1.length : Int)
  · obtain ⟨h0, hk, hc⟩ := he_facts mk_Maker_ok hp hlt zd11
    have bad := he_bad (m := mk_Maker) (g := cnt_Maker) hp hlt zd11
    have good := fun K hK => he_good mk_Maker_ok (K := K) hp hlt zd11 hK
    generalize x1.getD x3.toNat zd11 = e at *
    simp only [cnt_Maker] at hc
    have n4 := cntL_nn mk_Mark_ok e.2.2.2.2.1
    have w0 : IntKind.wrap .i64 (x2 + 1) = x2 + 1 := w64 (by omega) (by omega)
    have w1 : IntKind.wrap .i64 (x2 + 1 + 1) = x2 + 1 + 1 := w64 (by omega) (by omega)
    have w2 : IntKind.wrap .i64 (x2 + 1 + 1 + 1) = x2 + 1 + 1 + 1 := w64 (by omega) (by omega)
    have w3 : IntKind.wrap .i64 (x2 + 1 + 1 + 1 + 1) = x2 + 1 + 1 + 1 + 1 := w64 (by omega) (by omega)
    have q4 : laws_heldMarkS.pre e.2.2.2.2.1 (x2 + 1 + 1 + 1 + 1) = true := heldMarkS_pre (by omega) (by omega)
    simp only [letB, hlt, h0, decide_true, if_true, w0, w1, w2, w3, q4]
    by_cases c0 : e.1 = x2
    case neg => rw [if_pos (by simp [c0])]; exact bad fun h => c0 (congrArg (fun z : Maker => z.1) h)
    rw [if_neg (by simp [c0])]
    by_cases c1 : e.2.1 = x2 + 1
    case neg => rw [if_pos (by simp [c1])]; exact bad fun h => c1 (congrArg (fun z : Maker => z.2.1) h)
    rw [if_neg (by simp [c1])]
    by_cases c2 : e.2.2.1 = x2 + 1 + 1
    case neg => rw [if_pos (by simp [c2])]; exact bad fun h => c2 (congrArg (fun z : Maker => z.2.2.1) h)
    rw [if_neg (by simp [c2])]
    by_cases c3 : e.2.2.2.1 = x2 + 1 + 1 + 1
    case neg => rw [if_pos (by simp [c3])]; exact bad fun h => c3 (congrArg (fun z : Maker => z.2.2.2.1) h)
    rw [if_neg (by simp [c3])]
    by_cases c4 : e.2.2.2.2.1 = mkL mk_Mark cnt_Mark e.2.2.2.2.1 (x2 + 1 + 1 + 1 + 1)
    case neg => rw [show laws_heldMarkS e.2.2.2.2.1 (x2 + 1 + 1 + 1 + 1) = -1 from heldMarkS_neg c4, if_pos (by decide)]; exact bad fun h => c4 ((congrArg (fun z : Maker => z.2.2.2.2.1) h).trans (by simp only [mk_Maker]))
    rw [show laws_heldMarkS e.2.2.2.2.1 (x2 + 1 + 1 + 1 + 1) = x2 + 1 + 1 + 1 + 1 + cntL cnt_Mark e.2.2.2.2.1 from heldMarkS_pos c4, if_neg (by rw [decide_eq_true_eq]; omega)]
    exact good _ (by simp only [cnt_Maker]; omega) (Prod.ext c0 (Prod.ext c1 (Prod.ext c2 (Prod.ext c3 (Prod.ext c4 rfl)))))
  · rw [if_neg (by simp [hlt])]; exact he_end hp hlt
theorem eq (x0 : List Maker) (x1 : Int) (_ : wf x0 x1) (hp : pre x0 x1 = true) : raw x0 x1 = some ((), (laws_heldMakerS x0 x1, ())) := by
  unfold raw
  rw [if_pos (show pre2 _ = true from he_start mk_Maker_ok hp)]
  exact heFn_start x0 x1
end laws_heldMakerS
theorem heldMakerS_pos {xs : List Maker} {k : Int} (h : xs = mkL mk_Maker cnt_Maker xs k) : laws_heldMakerS xs k = k + cntL cnt_Maker xs := heldN_pos h
theorem heldMakerS_neg {xs : List Maker} {k : Int} (h : ¬ xs = mkL mk_Maker cnt_Maker xs k) : laws_heldMakerS xs k = -1 := heldN_neg h
theorem heldMakerS_pre {xs : List Maker} {k : Int} (h0 : 0 ≤ k) (h1 : k + cntL cnt_Maker xs ≤ 134217728) : laws_heldMakerS.pre xs k = true := mPre_iff.2 ⟨h0, h1⟩
def mk_Answer (_ : Answer) (k : Int) : Answer := (k, (k + 1, (laws_markText (k + 1 + 1), (laws_markText (k + 1 + 1 + 1), ()))))
def cnt_Answer (_ : Answer) : Int := 4
theorem mk_Answer_ok : MkOk mk_Answer cnt_Answer := ⟨fun _ => by simp only [cnt_Answer]; decide, fun _ _ => rfl, fun _ _ => rfl⟩
def w_Answer (x : Answer) : Int := (x.2.2.1.length : Int) + (x.2.2.2.1.length : Int)
theorem w_Answer_nn (x : Answer) : 0 ≤ w_Answer x := by
  simp only [w_Answer]; omega
theorem cnt_Answer_le (x : Answer) : cnt_Answer x ≤ 32 + 32 * w_Answer x := by
  simp only [w_Answer, cnt_Answer]; omega
noncomputable def laws_eqAnswer (a b : Answer) : Bool := same a b
namespace laws_eqAnswer
abbrev wf (x0 : Answer) (x1 : Answer) : Prop := wfA [(.val zk21 .f), (.val zk21 .f)] (x0, (x1, ()))
noncomputable def raw (x0 : Answer) (x1 : Answer) : Option zt25 :=
 if (!(decide (x0.1 = x1.1))) = true then
  some ((), (false, ()))
 else
  if (!(decide (x0.2.1 = x1.2.1))) = true then
   some ((), (false, ()))
  else
   if (!(x0.2.2.1 == x1.2.2.1)) = true then
    some ((), (false, ()))
   else
    if (!(x0.2.2.2.1 == x1.2.2.2.1)) = true then
     some ((), (false, ()))
    else
     some ((), (true, ()))
theorem eq (x0 x1 : Answer) (_ : wf x0 x1) : raw x0 x1 = some ((), (laws_eqAnswer x0 x1, ())) := by
  unfold raw laws_eqAnswer
  try simp only [letB]
  by_cases c0 : x0.1 = x1.1
  case neg => rw [if_pos (by simp [c0]), same_false.2 (fun h => c0 (congrArg (fun z : Answer => z.1) h))]
  rw [if_neg (by simp [c0])]
  by_cases c1 : x0.2.1 = x1.2.1
  case neg => rw [if_pos (by simp [c1]), same_false.2 (fun h => c1 (congrArg (fun z : Answer => z.2.1) h))]
  rw [if_neg (by simp [c1])]
  by_cases c2 : x0.2.2.1 = x1.2.2.1
  case neg => rw [if_pos (by simp [c2]), same_false.2 (fun h => c2 (congrArg (fun z : Answer => z.2.2.1) h))]
  rw [if_neg (by simp [c2])]
  by_cases c3 : x0.2.2.2.1 = x1.2.2.2.1
  case neg => rw [if_pos (by simp [c3]), same_false.2 (fun h => c3 (congrArg (fun z : Answer => z.2.2.2.1) h))]
  rw [if_neg (by simp [c3])]
  rw [same_true.2 (Prod.ext c0 (Prod.ext c1 (Prod.ext c2 (Prod.ext c3 rfl))))]
end laws_eqAnswer
def laws_toAnswer (x : Answer) : Answer := x
namespace laws_toAnswer
abbrev wf (x0 : Answer) : Prop := wfA [(.val zk21 .f)] (x0, ())
noncomputable def raw (x0 : Answer) : Option (Unit × (Answer × Unit)) :=
 some ((), (x0, ()))
theorem eq (x0 : Answer) (_ : wf x0) : raw x0 = some ((), (laws_toAnswer x0, ())) := rfl
end laws_toAnswer
def laws_szAnswer (x : Answer) (l : Int) : Int := szN (w_Answer x) l
namespace laws_szAnswer
def pre (_ : Answer) (l : Int) : Bool := decide (0 ≤ l) && decide (l ≤ maxLen)
abbrev wf (x0 : Answer) (x1 : Int) : Prop := wfA [(.val zk21 .f), (.val (.int .i64) .f)] (x0, (x1, ()))
noncomputable def raw (x0 : Answer) (x1 : Int) : Option zt22 :=
 if (decide ((IntKind.wrap .i64 (x1 - ((List.length x0.2.2.1 : Nat) : Int))) < (0 : Int))) = true then
  some ((), ((-1 : Int), ()))
 else
  if (decide ((IntKind.wrap .i64 ((IntKind.wrap .i64 (x1 - ((List.length x0.2.2.1 : Nat) : Int))) - ((List.length x0.2.2.2.1 : Nat) : Int))) < (0 : Int))) = true then
   some ((), ((-1 : Int), ()))
  else
   some ((), ((IntKind.wrap .i64 ((IntKind.wrap .i64 (x1 - ((List.length x0.2.2.1 : Nat) : Int))) - ((List.length x0.2.2.2.1 : Nat) : Int))), ()))
theorem eq (x0 : Answer) (x1 : Int) (hw : wf x0 x1) (hp : pre x0 x1 = true) : raw x0 x1 = some ((), (laws_szAnswer x0 x1, ())) := by
  simp only [pre, Bool.and_eq_true, decide_eq_true_eq] at hp
  have hM := maxLen_eq
  have t2 : x0.2.2.1.length ≤ maxLen := hw.1.2.2.1
  have t3 : x0.2.2.2.1.length ≤ maxLen := hw.1.2.2.2.1
  unfold raw
  try simp only [letB]
  rw [w64 (n := x1 - (x0.2.2.1.length : Int)) (by omega) (by omega)]
  by_cases c2 : x1 - (x0.2.2.1.length : Int) < 0
  · rw [if_pos (decide_eq_true c2), show laws_szAnswer x0 x1 = -1 from szN_neg (by simp only [w_Answer]; omega)]
  rw [if_neg (by rw [decide_eq_true_eq]; exact c2)]
  rw [w64 (n := x1 - (x0.2.2.1.length : Int) - (x0.2.2.2.1.length : Int)) (by omega) (by omega)]
  by_cases c3 : x1 - (x0.2.2.1.length : Int) - (x0.2.2.2.1.length : Int) < 0
  · rw [if_pos (decide_eq_true c3), show laws_szAnswer x0 x1 = -1 from szN_neg (by simp only [w_Answer]; omega)]
  rw [if_neg (by rw [decide_eq_true_eq]; exact c3)]
  rw [show laws_szAnswer x0 x1 = x1 - (x0.2.2.1.length : Int) - (x0.2.2.2.1.length : Int) from by rw [laws_szAnswer, szN_pos (by simp only [w_Answer]; omega)]; simp only [w_Answer]; omega]
end laws_szAnswer
noncomputable def laws_eqAnswerS (a b : List Answer) : Bool := same a b
namespace laws_eqAnswerS
def pre4 := eqPre (α := Answer)
noncomputable def fn4 := eqFn (α := Answer)
def mu4 := eqMu (α := Answer)
noncomputable def raw4 (x1 : (List Answer)) (x2 : (List Answer)) (x3 : Int) : Option (((List Answer) × ((List Answer) × (Int × Unit))) ⊕ ((Bool × Unit) ⊕ Unit)) :=
 if (decide (x3 < ((List.length x1 : Nat) : Int))) = true then
  if (decide ((0 : Int) ≤ x3)) = true then
   if (decide (x3 < ((List.length x1 : Nat) : Int))) = true then
    if (decide ((0 : Int) ≤ x3)) = true then
     if (decide (x3 < ((List.length x2 : Nat) : Int))) = true then
      letB (laws_eqAnswer (List.getD x1 (Int.toNat x3) zd8) (List.getD x2 (Int.toNat x3) zd8)) fun v1 =>
      if (!v1) = true then
       some (.inr (.inl (false, ())))
      else
       some (.inl (x1, (x2, ((IntKind.wrap .i64 (x3 + (1 : Int))), ()))))
     else
      none
    else
     none
   else
    none
  else
   none
 else
  some (.inr (.inr ()))
abbrev wf (x0 : (List Answer)) (x1 : (List Answer)) : Prop := wfA [(.val (.sl 0 zk21) .f), (.val (.sl 0 zk21) .f)] (x0, (x1, ()))
noncomputable def raw (x0 : (List Answer)) (x1 : (List Answer)) : Option zt25 :=
 if (!(decide (((List.length x0 : Nat) : Int) = ((List.length x1 : Nat) : Int)))) = true then
  some ((), (false, ()))
 else
  if (laws_eqAnswerS.pre4 (x0, (x1, ((0 : Int), ())))) = true then
   letB (laws_eqAnswerS.fn4 (x0, (x1, ((0 : Int), ())))) fun v1 =>
   match v1 with
   | .inl y =>
    some ((), y)
   | .inr y =>
    some ((), (true, ()))
  else
   none
theorem ok4 (x1 x2 : List Answer) (x3 : Int) (hp : pre4 (x1, (x2, (x3, ()))) = true) : Rounds pre4 mu4 fn4 (x1, (x2, (x3, ()))) (raw4 x1 x2 x3) := by
  unfold raw4
  by_cases hlt : x3 < (x1.length : Int)
  · obtain ⟨h1, h2, h3, h4⟩ := eq_next hp hlt zd8
    simp only [letB, hlt, h1, h2, decide_true, if_true]
    by_cases h : x1.getD x3.toNat zd8 = x2.getD x3.toNat zd8
    · rw [if_neg (by rw [laws_eqAnswer, same_true.2 h]; simp)]; exact h3 h
    · rw [if_pos (by rw [laws_eqAnswer, same_false.2 h]; rfl)]; exact h4 h
  · simp only [hlt, decide_false, Bool.false_eq_true, if_false]
    exact eq_end hp hlt
theorem eq (x0 x1 : List Answer) (hw : wf x0 x1) : raw x0 x1 = some ((), (laws_eqAnswerS x0 x1, ())) := by
  have h1 : x0.length ≤ maxLen := hw.1.1
  unfold raw laws_eqAnswerS
  by_cases hl : (x0.length : Int) = (x1.length : Int)
  · rw [if_neg (by simp [hl]), if_pos (show pre4 _ = true from eq_start h1 hl)]
    unfold fn4
    by_cases he : x0 = x1
    · rw [eqFn_eq he, same_true.2 he]; rfl
    · rw [eqFn_ne he, same_false.2 he]; rfl
  · have : ¬ x0 = x1 := fun h => hl (by rw [h])
    rw [if_pos (by simp [hl]), same_false.2 this]
end laws_eqAnswerS
def laws_toAnswerS (xs : List Answer) : List Answer := xs
namespace laws_toAnswerS
def pre (xs : List Answer) : Bool := small xs && xs.all (fun _ => true)
noncomputable def pre3 := tcPreB (α := Answer) (fun _ => true)
def fn3 := toFn (α := Answer)
def mu3 := toMu (α := Answer)
noncomputable def raw3 (x1 : (List Answer)) (x2 : Int) (x3 : (List Answer)) : Option (((List Answer) × (Int × ((List Answer) × Unit))) ⊕ ((List Answer) × Unit)) :=
 if (decide (x2 < ((List.length x1 : Nat) : Int))) = true then
  if (decide ((0 : Int) ≤ x2)) = true then
   if (decide (x2 < ((List.length x1 : Nat) : Int))) = true then
    if (decide ((0 : Int) ≤ x2)) = true then
     if (decide (x2 < ((List.length x3 : Nat) : Int))) = true then
      some (.inl (x1, ((IntKind.wrap .i64 (x2 + (1 : Int))), ((List.modify x3 (Int.toNat x2) (fun z => (laws_toAnswer (List.getD x1 (Int.toNat x2) zd8)))), ()))))
     else
      none
    else
     none
   else
    none
  else
   none
 else
  some (.inr (x3, ()))
abbrev wf (x0 : (List Answer)) : Prop := wfA [(.val (.sl 0 zk21) .f)] (x0, ())
noncomputable def raw (x0 : (List Answer)) : Option (Unit × ((List Answer) × Unit)) :=
 if (decide ((0 : Int) ≤ ((List.length x0 : Nat) : Int))) = true then
  if (decide (((List.length x0 : Nat) : Int) ≤ ((List.length x0 : Nat) : Int))) = true then
   if (decide (((List.length x0 : Nat) : Int) ≤ (4294967296 : Int))) = true then
    if (laws_toAnswerS.pre3 (x0, ((0 : Int), ((List.replicate (Int.toNat ((List.length x0 : Nat) : Int)) zd8), ())))) = true then
     letB (laws_toAnswerS.fn3 (x0, ((0 : Int), ((List.replicate (Int.toNat ((List.length x0 : Nat) : Int)) zd8), ())))) fun v1 =>
     some ((), v1)
    else
     none
   else
    none
  else
   none
 else
  none
theorem ok3 (x1 : List Answer) (x2 : Int) (x3 : List Answer) (hp : pre3 (x1, (x2, (x3, ()))) = true) : Rounds pre3 mu3 fn3 (x1, (x2, (x3, ()))) (raw3 x1 x2 x3) := by
  unfold raw3
  by_cases hlt : x2 < (x1.length : Int)
  · obtain ⟨h1, h2, h3⟩ := tc_facts hp hlt zd8
    simp only [letB, hlt, h1, h2, h3, decide_true, if_true]
    exact tc_step hp hlt zd8 rfl
  · rw [if_neg (by simp [hlt])]; exact tc_end hp hlt
theorem eq (x0 : List Answer) (hw : wf x0) (hp : pre x0 = true) : raw x0 = some ((), (laws_toAnswerS x0, ())) := by
  have h1 : x0.length ≤ maxLen := hw.1.1
  simp only [pre, Bool.and_eq_true, small_iff] at hp
  unfold raw
  rw [if_pos (by simp), if_pos (by simp), if_pos (by simp; omega), if_pos (show pre3 _ = true from tc_start h1 hp.2 _)]
  rfl
end laws_toAnswerS
theorem toAnswerS_pre {xs : List Answer} (h : wL w_Answer xs ≤ 16777216) : laws_toAnswerS.pre xs = true := by
  have hl := wL_nn w_Answer_nn xs
  simp only [laws_toAnswerS.pre, Bool.and_eq_true, small_iff]
  exact ⟨by omega, by simp⟩
def laws_szAnswerS (xs : List Answer) (l : Int) : Int := szN (wL w_Answer xs) l
namespace laws_szAnswerS
def pre (_ : List Answer) (l : Int) : Bool := decide (0 ≤ l) && decide (l ≤ maxLen)
def pre5 := swPre (α := Answer)
def fn5 := swFn w_Answer
def mu5 := szMu (α := Answer)
noncomputable def raw5 (x1 : (List Answer)) (x2 : Int) (x3 : Int) : Option (((List Answer) × Mark) ⊕ ((Int × Unit) ⊕ (Int × Unit))) :=
 if (decide (x3 < ((List.length x1 : Nat) : Int))) = true then
  if (decide ((0 : Int) ≤ x3)) = true then
   if (decide (x3 < ((List.length x1 : Nat) : Int))) = true then
    if (laws_szAnswer.pre (List.getD x1 (Int.toNat x3) zd8) x2) = true then
     letB (laws_szAnswer (List.getD x1 (Int.toNat x3) zd8) x2) fun v1 =>
     if (decide (v1 < (0 : Int))) = true then
      some (.inr (.inl ((-1 : Int), ())))
     else
      some (.inl (x1, (v1, ((IntKind.wrap .i64 (x3 + (1 : Int))), ()))))
    else
     none
   else
    none
  else
   none
 else
  some (.inr (.inr (x2, ())))
abbrev wf (x0 : (List Answer)) (x1 : Int) : Prop := wfA [(.val (.sl 0 zk21) .f), (.val (.int .i64) .f)] (x0, (x1, ()))
noncomputable def raw (x0 : (List Answer)) (x1 : Int) : Option zt22 :=
 if (decide ((IntKind.wrap .i64 (x1 - ((List.length x0 : Nat) : Int))) < (0 : Int))) = true then
  some ((), ((-1 : Int), ()))
 else
  if (laws_szAnswerS.pre5 (x0, ((IntKind.wrap .i64 (x1 - ((List.length x0 : Nat) : Int))), ((0 : Int), ())))) = true then
   letB (laws_szAnswerS.fn5 (x0, ((IntKind.wrap .i64 (x1 - ((List.length x0 : Nat) : Int))), ((0 : Int), ())))) fun v1 =>
   match v1 with
   | .inl y =>
    some ((), y)
   | .inr y =>
    some ((), y)
  else
   none
theorem ok5 (x1 : List Answer) (x2 x3 : Int) (hp : pre5 (x1, (x2, (x3, ()))) = true) : Rounds pre5 mu5 fn5 (x1, (x2, (x3, ()))) (raw5 x1 x2 x3) := by
  unfold raw5
  by_cases hlt : x3 < (x1.length : Int)
  · obtain ⟨h0, h1, h2⟩ := sw_facts hp
    have q : laws_szAnswer.pre (x1.getD x3.toNat zd8) x2 = true := by simp only [laws_szAnswer.pre, Bool.and_eq_true, decide_eq_true_eq]; exact ⟨h1, h2⟩
    simp only [letB, hlt, h0, q, decide_true, if_true]
    by_cases c : x2 - w_Answer (x1.getD x3.toNat zd8) < 0
    · rw [show laws_szAnswer (x1.getD x3.toNat zd8) x2 = -1 from szN_neg c, if_pos (by decide)]; exact sw_bad w_Answer_nn hp hlt zd8 c
    · rw [show laws_szAnswer (x1.getD x3.toNat zd8) x2 = x2 - w_Answer (x1.getD x3.toNat zd8) from szN_pos c, if_neg (by rw [decide_eq_true_eq]; exact c)]; exact sw_good w_Answer_nn hp hlt zd8 c
  · rw [if_neg (by simp [hlt])]; exact sw_end hp hlt
theorem eq (x0 : List Answer) (x1 : Int) (hw : wf x0 x1) (hp : pre x0 x1 = true) : raw x0 x1 = some ((), (laws_szAnswerS x0 x1, ())) := by
  have h1 : x0.length ≤ maxLen := hw.1.1
  simp only [pre, Bool.and_eq_true, decide_eq_true_eq] at hp
  have hM := maxLen_eq
  have hnn := sumW_nn w_Answer_nn x0
  unfold raw
  rw [w64 (n := x1 - (x0.length : Int)) (by omega) (by omega)]
  by_cases c : x1 - (x0.length : Int) < 0
  · rw [if_pos (decide_eq_true c), show laws_szAnswerS x0 x1 = -1 from szN_neg (by simp only [wL]; omega)]
  · rw [if_neg (by rw [decide_eq_true_eq]; exact c), if_pos (show pre5 _ = true from sw_start h1 (by omega) (by omega))]
    exact swFn_start x0 x1
end laws_szAnswerS
def laws_markAnswerS (xs : List Answer) (k : Int) : List Answer × Int := (mkL mk_Answer cnt_Answer xs k, k + cntL cnt_Answer xs)
namespace laws_markAnswerS
def pre (xs : List Answer) (k : Int) : Bool := mPre cnt_Answer xs k
def pre2 := mkPre cnt_Answer
def fn2 := mkFn mk_Answer cnt_Answer
def mu2 := mkMu (α := Answer)
noncomputable def raw2 (x1 : Int) (x2 : Int) (x3 : (List Answer)) : Option ((Int × (Int × ((List Answer) × Unit))) ⊕ (Int × ((List Answer) × Unit))) :=
 if (decide (x2 < ((List.length x3 : Nat) : Int))) = true then
  if (decide ((0 : Int) ≤ x2)) = true then
   if (decide (x2 < ((List.length x3 : Nat) : Int))) = true then
    if (decide ((0 : Int) ≤ x2)) = true then
     if (decide (x2 < ((List.length (List.modify x3 (Int.toNat x2) (fun z => (x1, z.2))) : Nat) : Int))) = true then
      if (laws_markText.pre (IntKind.wrap .i64 ((IntKind.wrap .i64 (x1 + (1 : Int))) + (1 : Int)))) = true then
       if (decide ((0 : Int) ≤ x2)) = true then
        if (decide (x2 < ((List.length (List.modify (List.modify x3 (Int.toNat x2) (fun z => (x1, z.2))) (Int.toNat x2) (fun z => (z.1, ((IntKind.wrap .i64 (x1 + (1 : Int))), z.2.2)))) : Nat) : Int))) = true then
         if (laws_markText.pre (IntKind.wrap .i64 ((IntKind.wrap .i64 ((IntKind.wrap .i64 (x1 + (1 : Int))) + (1 : Int))) + (1 : Int)))) = true then
          if (decide ((0 : Int) ≤ x2)) = true then
           if (decide (x2 < ((List.length (List.modify (List.modify (List.modify x3 (Int.toNat x2) (fun z => (x1, z.2))) (Int.toNat x2) (fun z => (z.1, ((IntKind.wrap .i64 (x1 + (1 : Int))), z.2.2)))) (Int.toNat x2) (fun z => (z.1, (z.2.1, ((laws_markText (IntKind.wrap .i64 ((IntKind.wrap .i64 (x1 + (1 : Int))) + (1 : Int)))), z.2.2.2))))) : Nat) : Int))) = true then
            some (.inl ((IntKind.wrap .i64 ((IntKind.wrap .i64 ((IntKind.wrap .i64 ((IntKind.wrap .i64 (x1 + (1 : Int))) + (1 : Int))) + (1 : Int))) + (1 : Int))), ((IntKind.wrap .i64 (x2 + (1 : Int))), ((List.modify (List.modify (List.modify (List.modify x3 (Int.toNat x2) (fun z => (x1, z.2))) (Int.toNat x2) (fun z => (z.1, ((IntKind.wrap .i64 (x1 + (1 : Int))), z.2.2)))) (Int.toNat x2) (fun z => (z.1, (z.2.1, ((laws_markText (IntKind.wrap .i64 ((IntKind.wrap .i64 (x1 + (1 : Int))) + (1 : Int)))), z.2.2.2))))) (Int.toNat x2) (fun z => (z.1, (z.2.1, (z.2.2.1, ((laws_markText (IntKind.wrap .i64 ((IntKind.wrap .i64 ((IntKind.wrap .i64 (x1 + (1 : Int))) + (1 : Int))) + (1 : Int)))), z.2.2.2.2)))))), ()))))
           else
            none
          else
           none
         else
          none
        else
         none
       else
        none
      else
       none
     else
      none
    else
     none
   else
    none
  else
   none
 else
  some (.inr (x1, (x3, ())))
abbrev wf (x0 : (List Answer)) (x1 : Int) : Prop := wfA [(.mut (.sl 0 zk21)), (.val (.int .i64) .f)] (x0, (x1, ()))
noncomputable def raw (x0 : (List Answer)) (x1 : Int) : Option (((List Answer) × Unit) × (Int × Unit)) :=
 if (laws_markAnswerS.pre2 (x1, ((0 : Int), (x0, ())))) = true then
  letB (laws_markAnswerS.fn2 (x1, ((0 : Int), (x0, ())))) fun v1 =>
  some (v1.2, (v1.1, ()))
 else
  none
theorem ok2 (x1 x2 : Int) (x3 : List Answer) (hp : pre2 (x1, (x2, (x3, ()))) = true) : Rounds pre2 mu2 fn2 (x1, (x2, (x3, ()))) (raw2 x1 x2 x3) := by
  unfold raw2
  by_cases hlt : x2 < (x3.length : Int)
  · obtain ⟨h0, hk, hc, hn⟩ := mk_facts mk_Answer_ok hp hlt zd8
    generalize he : x3.getD x2.toNat zd8 = e at hc
    simp only [cnt_Answer] at hc
    have w0 : IntKind.wrap .i64 (x1 + 1) = x1 + 1 := w64 (by omega) (by omega)
    have w1 : IntKind.wrap .i64 (x1 + 1 + 1) = x1 + 1 + 1 := w64 (by omega) (by omega)
    have w2 : IntKind.wrap .i64 (x1 + 1 + 1 + 1) = x1 + 1 + 1 + 1 := w64 (by omega) (by omega)
    have p2 : laws_markText.pre (x1 + 1 + 1) = true := by simp only [laws_markText.pre, decide_eq_true_eq]; omega
    have w3 : IntKind.wrap .i64 (x1 + 1 + 1 + 1 + 1) = x1 + 1 + 1 + 1 + 1 := w64 (by omega) (by omega)
    have p3 : laws_markText.pre (x1 + 1 + 1 + 1) = true := by simp only [laws_markText.pre, decide_eq_true_eq]; omega
    simp only [letB, List.length_modify, List.modify_modify_eq, getD_modify hn, Function.comp, hlt, h0, he, decide_true, if_true, w0, w1, w2, p2, w3, p3]
    exact mk_step mk_Answer_ok hp hlt zd8 (by rw [he]; simp only [cnt_Answer]; omega) (by rw [he]; rfl)
  · rw [if_neg (by simp [hlt])]; exact mk_end hp hlt
theorem eq (x0 : List Answer) (x1 : Int) (_ : wf x0 x1) (hp : pre x0 x1 = true) : raw x0 x1 = some (((laws_markAnswerS x0 x1).1, ()), ((laws_markAnswerS x0 x1).2, ())) := by
  unfold raw
  rw [if_pos (show pre2 _ = true from mk_start mk_Answer_ok hp)]
  rfl
end laws_markAnswerS
theorem markAnswerS_eq (xs : List Answer) (k : Int) : laws_markAnswerS xs k = (mkL mk_Answer cnt_Answer xs k, k + cntL cnt_Answer xs) := rfl
theorem markAnswerS_pre {xs : List Answer} {k : Int} (h0 : 0 ≤ k) (h1 : k + cntL cnt_Answer xs ≤ 134217728) : laws_markAnswerS.pre xs k = true := mPre_iff.2 ⟨h0, h1⟩
noncomputable def laws_heldAnswerS (xs : List Answer) (k : Int) : Int := heldN (mkL mk_Answer cnt_Answer) (cntL cnt_Answer) xs k
namespace laws_heldAnswerS
def pre (xs : List Answer) (k : Int) : Bool := mPre cnt_Answer xs k
def pre2 := hePre cnt_Answer
noncomputable def fn2 := heFn mk_Answer cnt_Answer
def mu2 := heMu (α := Answer)
noncomputable def raw2 (x1 : (List Answer)) (x2 : Int) (x3 : Int) : Option (((List Answer) × Mark) ⊕ ((Int × Unit) ⊕ (Int × Unit))) :=
 if (decide (x3 < ((List.length x1 : Nat) : Int))) = true then
  if (decide ((0 : Int) ≤ x3)) = true then
   if (decide (x3 < ((List.length x1 : Nat) : Int))) = true then
    if (!(decide ((List.getD x1 (Int.toNat x3) zd8).1 = x2))) = true then
     some (.inr (.inl ((-1 : Int), ())))
    else
     if (decide ((0 : Int) ≤ x3)) = true then
      if (decide (x3 < ((List.length x1 : Nat) : Int))) = true then
       if (!(decide ((List.getD x1 (Int.toNat x3) zd8).2.1 = (IntKind.wrap .i64 (x2 + (1 : Int)))))) = true then
        some (.inr (.inl ((-1 : Int), ())))
       else
        if (decide ((0 : Int) ≤ x3)) = true then
         if (decide (x3 < ((List.length x1 : Nat) : Int))) = true then
          if (laws_markText.pre (IntKind.wrap .i64 ((IntKind.wrap .i64 (x2 + (1 : Int))) + (1 : Int)))) = true then
           letB (laws_markText (IntKind.wrap .i64 ((IntKind.wrap .i64 (x2 + (1 : Int))) + (1 : Int)))) fun v1 =>
           if (!((List.getD x1 (Int.toNat x3) zd8).2.2.1 == v1)) = true then
            some (.inr (.inl ((-1 : Int), ())))
           else
            if (decide ((0 : Int) ≤ x3)) = true then
             if (decide (x3 < ((List.length x1 : Nat) : Int))) = true then
              if (laws_markText.pre (IntKind.wrap .i64 ((IntKind.wrap .i64 ((IntKind.wrap .i64 (x2 + (1 : Int))) + (1 : Int))) + (1 : Int)))) = true then
               letB (laws_markText (IntKind.wrap .i64 ((IntKind.wrap .i64 ((IntKind.wrap .i64 (x2 + (1 : Int))) + (1 : Int))) + (1 : Int)))) fun v2 =>
               if (!((List.getD x1 (Int.toNat x3) zd8).2.2.2.1 == v2)) = true then
                some (.inr (.inl ((-1 : Int), ())))
               else
                some (.inl (x1, ((IntKind.wrap .i64 ((IntKind.wrap .i64 ((IntKind.wrap .i64 ((IntKind.wrap .i64 (x2 + (1 : Int))) + (1 : Int))) + (1 : Int))) + (1 : Int))), ((IntKind.wrap .i64 (x3 + (1 : Int))), ()))))
              else
               none
             else
              none
            else
             none
          else
           none
         else
          none
        else
         none
      else
       none
     else
      none
   else
    none
  else
   none
 else
  some (.inr (.inr (x2, ())))
abbrev wf (x0 : (List Answer)) (x1 : Int) : Prop := wfA [(.val (.sl 0 zk21) .f), (.val (.int .i64) .f)] (x0, (x1, ()))
noncomputable def raw (x0 : (List Answer)) (x1 : Int) : Option zt22 :=
 if (laws_heldAnswerS.pre2 (x0, (x1, ((0 : Int), ())))) = true then
  letB (laws_heldAnswerS.fn2 (x0, (x1, ((0 : Int), ())))) fun v1 =>
  match v1 with
  | .inl y =>
   some ((), y)
  | .inr y =>
   some ((), y)
 else
  none
theorem ok2 (x1 : List Answer) (x2 x3 : Int) (hp : pre2 (x1, (x2, (x3, ()))) = true) : Rounds pre2 mu2 fn2 (x1, (x2, (x3, ()))) (raw2 x1 x2 x3) := by
  unfold raw2
  by_cases hlt : x3 < (x1.length : Int)
  · obtain ⟨h0, hk, hc⟩ := he_facts mk_Answer_ok hp hlt zd8
    have bad := he_bad (m := mk_Answer) (g := cnt_Answer) hp hlt zd8
    have good := fun K hK => he_good mk_Answer_ok (K := K) hp hlt zd8 hK
    generalize x1.getD x3.toNat zd8 = e at *
    simp only [cnt_Answer] at hc
    have w0 : IntKind.wrap .i64 (x2 + 1) = x2 + 1 := w64 (by omega) (by omega)
    have w1 : IntKind.wrap .i64 (x2 + 1 + 1) = x2 + 1 + 1 := w64 (by omega) (by omega)
    have w2 : IntKind.wrap .i64 (x2 + 1 + 1 + 1) = x2 + 1 + 1 + 1 := w64 (by omega) (by omega)
    have p2 : laws_markText.pre (x2 + 1 + 1) = true := by simp only [laws_markText.pre, decide_eq_true_eq]; omega
    have w3 : IntKind.wrap .i64 (x2 + 1 + 1 + 1 + 1) = x2 + 1 + 1 + 1 + 1 := w64 (by omega) (by omega)
    have p3 : laws_markText.pre (x2 + 1 + 1 + 1) = true := by simp only [laws_markText.pre, decide_eq_true_eq]; omega
    simp only [letB, hlt, h0, decide_true, if_true, w0, w1, w2, p2, w3, p3]
    by_cases c0 : e.1 = x2
    case neg => rw [if_pos (by simp [c0])]; exact bad fun h => c0 (congrArg (fun z : Answer => z.1) h)
    rw [if_neg (by simp [c0])]
    by_cases c1 : e.2.1 = x2 + 1
    case neg => rw [if_pos (by simp [c1])]; exact bad fun h => c1 (congrArg (fun z : Answer => z.2.1) h)
    rw [if_neg (by simp [c1])]
    by_cases c2 : e.2.2.1 = laws_markText (x2 + 1 + 1)
    case neg => rw [if_pos (by simp [c2])]; exact bad fun h => c2 (congrArg (fun z : Answer => z.2.2.1) h)
    rw [if_neg (by simp [c2])]
    by_cases c3 : e.2.2.2.1 = laws_markText (x2 + 1 + 1 + 1)
    case neg => rw [if_pos (by simp [c3])]; exact bad fun h => c3 (congrArg (fun z : Answer => z.2.2.2.1) h)
    rw [if_neg (by simp [c3])]
    exact good _ (by simp only [cnt_Answer]; omega) (Prod.ext c0 (Prod.ext c1 (Prod.ext c2 (Prod.ext c3 rfl))))
  · rw [if_neg (by simp [hlt])]; exact he_end hp hlt
theorem eq (x0 : List Answer) (x1 : Int) (_ : wf x0 x1) (hp : pre x0 x1 = true) : raw x0 x1 = some ((), (laws_heldAnswerS x0 x1, ())) := by
  unfold raw
  rw [if_pos (show pre2 _ = true from he_start mk_Answer_ok hp)]
  exact heFn_start x0 x1
end laws_heldAnswerS
theorem heldAnswerS_pos {xs : List Answer} {k : Int} (h : xs = mkL mk_Answer cnt_Answer xs k) : laws_heldAnswerS xs k = k + cntL cnt_Answer xs := heldN_pos h
theorem heldAnswerS_neg {xs : List Answer} {k : Int} (h : ¬ xs = mkL mk_Answer cnt_Answer xs k) : laws_heldAnswerS xs k = -1 := heldN_neg h
theorem heldAnswerS_pre {xs : List Answer} {k : Int} (h0 : 0 ≤ k) (h1 : k + cntL cnt_Answer xs ≤ 134217728) : laws_heldAnswerS.pre xs k = true := mPre_iff.2 ⟨h0, h1⟩
def mk_Group (x : Group) (k : Int) : Group := (k, (mkL mk_Int cnt_Int x.2.1 (k + 1), (mkL mk_Int cnt_Int x.2.2.1 (k + 1 + cntL cnt_Int x.2.1), (mkL mk_Int cnt_Int x.2.2.2.1 (k + 1 + cntL cnt_Int x.2.1 + cntL cnt_Int x.2.2.1), ()))))
def cnt_Group (x : Group) : Int := 1 + cntL cnt_Int x.2.1 + cntL cnt_Int x.2.2.1 + cntL cnt_Int x.2.2.2.1
theorem mk_Group_ok : MkOk mk_Group cnt_Group := by
  refine ⟨fun x => ?_, fun x k => ?_, fun x k => ?_⟩
  · have n1 := cntL_nn mk_Int_ok x.2.1
    have n2 := cntL_nn mk_Int_ok x.2.2.1
    have n3 := cntL_nn mk_Int_ok x.2.2.2.1
    simp only [cnt_Group]; omega
  · simp only [cnt_Group, mk_Group, cntL_mkL mk_Int_ok]
  · simp only [mk_Group, cntL_mkL mk_Int_ok, mkL_mkL mk_Int_ok]
def w_Group (x : Group) : Int := wL w_Int x.2.1 + wL w_Int x.2.2.1 + wL w_Int x.2.2.2.1
theorem w_Group_nn (x : Group) : 0 ≤ w_Group x := by
  have n1 := wL_nn w_Int_nn x.2.1
  have n2 := wL_nn w_Int_nn x.2.2.1
  have n3 := wL_nn w_Int_nn x.2.2.2.1
  simp only [w_Group]; omega
theorem cnt_Group_le (x : Group) : cnt_Group x ≤ 32 + 32 * w_Group x := by
  have n1 := cntL_le cnt_Int_le x.2.1
  have n2 := cntL_le cnt_Int_le x.2.2.1
  have n3 := cntL_le cnt_Int_le x.2.2.2.1
  simp only [w_Group, cnt_Group]; omega
noncomputable def laws_eqGroup (a b : Group) : Bool := same a b
namespace laws_eqGroup
abbrev wf (x0 : Group) (x1 : Group) : Prop := wfA [(.val zk19 .f), (.val zk19 .f)] (x0, (x1, ()))
noncomputable def raw (x0 : Group) (x1 : Group) : Option zt25 :=
 if (!(decide (x0.1 = x1.1))) = true then
  some ((), (false, ()))
 else
  letB (laws_eqIntS x0.2.1 x1.2.1) fun v1 =>
  if (!v1) = true then
   some ((), (false, ()))
  else
   letB (laws_eqIntS x0.2.2.1 x1.2.2.1) fun v2 =>
   if (!v2) = true then
    some ((), (false, ()))
   else
    letB (laws_eqIntS x0.2.2.2.1 x1.2.2.2.1) fun v3 =>
    if (!v3) = true then
     some ((), (false, ()))
    else
     some ((), (true, ()))
theorem eq (x0 x1 : Group) (_ : wf x0 x1) : raw x0 x1 = some ((), (laws_eqGroup x0 x1, ())) := by
  unfold raw laws_eqGroup
  try simp only [letB]
  by_cases c0 : x0.1 = x1.1
  case neg => rw [if_pos (by simp [c0]), same_false.2 (fun h => c0 (congrArg (fun z : Group => z.1) h))]
  rw [if_neg (by simp [c0])]
  by_cases c1 : x0.2.1 = x1.2.1
  case neg => rw [if_pos (by rw [laws_eqIntS, same_false.2 c1]; rfl), same_false.2 (fun h => c1 (congrArg (fun z : Group => z.2.1) h))]
  rw [if_neg (by rw [laws_eqIntS, same_true.2 c1]; simp)]
  by_cases c2 : x0.2.2.1 = x1.2.2.1
  case neg => rw [if_pos (by rw [laws_eqIntS, same_false.2 c2]; rfl), same_false.2 (fun h => c2 (congrArg (fun z : Group => z.2.2.1) h))]
  rw [if_neg (by rw [laws_eqIntS, same_true.2 c2]; simp)]
  by_cases c3 : x0.2.2.2.1 = x1.2.2.2.1
  case neg => rw [if_pos (by rw [laws_eqIntS, same_false.2 c3]; rfl), same_false.2 (fun h => c3 (congrArg (fun z : Group => z.2.2.2.1) h))]
  rw [if_neg (by rw [laws_eqIntS, same_true.2 c3]; simp)]
  rw [same_true.2 (Prod.ext c0 (Prod.ext c1 (Prod.ext c2 (Prod.ext c3 rfl))))]
end laws_eqGroup
def laws_toGroup (x : Group) : Group := x
namespace laws_toGroup
def pre (x : Group) : Bool := laws_toIntS.pre x.2.1 && laws_toIntS.pre x.2.2.1 && laws_toIntS.pre x.2.2.2.1
abbrev wf (x0 : Group) : Prop := wfA [(.val zk19 .f)] (x0, ())
noncomputable def raw (x0 : Group) : Option (Unit × (Group × Unit)) :=
 if (laws_toIntS.pre x0.2.1) = true then
  if (laws_toIntS.pre x0.2.2.1) = true then
   if (laws_toIntS.pre x0.2.2.2.1) = true then
    letB (laws_toIntS x0.2.1) fun v1 =>
    letB (laws_toIntS x0.2.2.1) fun v2 =>
    letB (laws_toIntS x0.2.2.2.1) fun v3 =>
    some ((), ((x0.1, (v1, (v2, (v3, ())))), ()))
   else
    none
  else
   none
 else
  none
theorem eq (x0 : Group) (_ : wf x0) (hp : pre x0 = true) : raw x0 = some ((), (laws_toGroup x0, ())) := by
  simp only [pre, Bool.and_eq_true] at hp
  unfold raw
  try simp only [letB]
  rw [if_pos hp.1.1, if_pos hp.1.2, if_pos hp.2]
  rfl
end laws_toGroup
theorem toGroup_pre {x : Group} (h : w_Group x ≤ 16777216) : laws_toGroup.pre x = true := by
  simp only [w_Group] at h
  have n1 := wL_nn w_Int_nn x.2.1
  have n2 := wL_nn w_Int_nn x.2.2.1
  have n3 := wL_nn w_Int_nn x.2.2.2.1
  simp only [laws_toGroup.pre, Bool.and_eq_true]
  exact ⟨⟨toIntS_pre (by omega), toIntS_pre (by omega)⟩, toIntS_pre (by omega)⟩
def laws_szGroup (x : Group) (l : Int) : Int := szN (w_Group x) l
namespace laws_szGroup
def pre (_ : Group) (l : Int) : Bool := decide (0 ≤ l) && decide (l ≤ maxLen)
abbrev wf (x0 : Group) (x1 : Int) : Prop := wfA [(.val zk19 .f), (.val (.int .i64) .f)] (x0, (x1, ()))
noncomputable def raw (x0 : Group) (x1 : Int) : Option zt22 :=
 if (laws_szIntS.pre x0.2.1 x1) = true then
  letB (laws_szIntS x0.2.1 x1) fun v1 =>
  if (decide (v1 < (0 : Int))) = true then
   some ((), ((-1 : Int), ()))
  else
   if (laws_szIntS.pre x0.2.2.1 v1) = true then
    letB (laws_szIntS x0.2.2.1 v1) fun v2 =>
    if (decide (v2 < (0 : Int))) = true then
     some ((), ((-1 : Int), ()))
    else
     if (laws_szIntS.pre x0.2.2.2.1 v2) = true then
      letB (laws_szIntS x0.2.2.2.1 v2) fun v3 =>
      if (decide (v3 < (0 : Int))) = true then
       some ((), ((-1 : Int), ()))
      else
       some ((), (v3, ()))
     else
      none
   else
    none
 else
  none
theorem eq (x0 : Group) (x1 : Int) (hw : wf x0 x1) (hp : pre x0 x1 = true) : raw x0 x1 = some ((), (laws_szGroup x0 x1, ())) := by
  simp only [pre, Bool.and_eq_true, decide_eq_true_eq] at hp
  have hM := maxLen_eq
  have t1 := wL_nn w_Int_nn x0.2.1
  have t2 := wL_nn w_Int_nn x0.2.2.1
  have t3 := wL_nn w_Int_nn x0.2.2.2.1
  unfold raw
  try simp only [letB]
  rw [if_pos (show laws_szIntS.pre _ _ = true by simp only [laws_szIntS.pre, Bool.and_eq_true, decide_eq_true_eq]; omega)]
  by_cases c1 : x1 - wL w_Int x0.2.1 < 0
  · rw [show laws_szIntS x0.2.1 (x1) = -1 from szN_neg c1, if_pos (by decide), show laws_szGroup x0 x1 = -1 from szN_neg (by simp only [w_Group]; omega)]
  rw [show laws_szIntS x0.2.1 (x1) = x1 - wL w_Int x0.2.1 from szN_pos c1, if_neg (by rw [decide_eq_true_eq]; exact c1)]
  rw [if_pos (show laws_szIntS.pre _ _ = true by simp only [laws_szIntS.pre, Bool.and_eq_true, decide_eq_true_eq]; omega)]
  by_cases c2 : x1 - wL w_Int x0.2.1 - wL w_Int x0.2.2.1 < 0
  · rw [show laws_szIntS x0.2.2.1 (x1 - wL w_Int x0.2.1) = -1 from szN_neg c2, if_pos (by decide), show laws_szGroup x0 x1 = -1 from szN_neg (by simp only [w_Group]; omega)]
  rw [show laws_szIntS x0.2.2.1 (x1 - wL w_Int x0.2.1) = x1 - wL w_Int x0.2.1 - wL w_Int x0.2.2.1 from szN_pos c2, if_neg (by rw [decide_eq_true_eq]; exact c2)]
  rw [if_pos (show laws_szIntS.pre _ _ = true by simp only [laws_szIntS.pre, Bool.and_eq_true, decide_eq_true_eq]; omega)]
  by_cases c3 : x1 - wL w_Int x0.2.1 - wL w_Int x0.2.2.1 - wL w_Int x0.2.2.2.1 < 0
  · rw [show laws_szIntS x0.2.2.2.1 (x1 - wL w_Int x0.2.1 - wL w_Int x0.2.2.1) = -1 from szN_neg c3, if_pos (by decide), show laws_szGroup x0 x1 = -1 from szN_neg (by simp only [w_Group]; omega)]
  rw [show laws_szIntS x0.2.2.2.1 (x1 - wL w_Int x0.2.1 - wL w_Int x0.2.2.1) = x1 - wL w_Int x0.2.1 - wL w_Int x0.2.2.1 - wL w_Int x0.2.2.2.1 from szN_pos c3, if_neg (by rw [decide_eq_true_eq]; exact c3)]
  rw [show laws_szGroup x0 x1 = x1 - wL w_Int x0.2.1 - wL w_Int x0.2.2.1 - wL w_Int x0.2.2.2.1 from by rw [laws_szGroup, szN_pos (by simp only [w_Group]; omega)]; simp only [w_Group]; omega]
end laws_szGroup
noncomputable def laws_eqGroupS (a b : List Group) : Bool := same a b
namespace laws_eqGroupS
def pre4 := eqPre (α := Group)
noncomputable def fn4 := eqFn (α := Group)
def mu4 := eqMu (α := Group)
noncomputable def raw4 (x1 : (List Group)) (x2 : (List Group)) (x3 : Int) : Option (((List Group) × ((List Group) × (Int × Unit))) ⊕ ((Bool × Unit) ⊕ Unit)) :=
 if (decide (x3 < ((List.length x1 : Nat) : Int))) = true then
  if (decide ((0 : Int) ≤ x3)) = true then
   if (decide (x3 < ((List.length x1 : Nat) : Int))) = true then
    if (decide ((0 : Int) ≤ x3)) = true then
     if (decide (x3 < ((List.length x2 : Nat) : Int))) = true then
      letB (laws_eqGroup (List.getD x1 (Int.toNat x3) zd9) (List.getD x2 (Int.toNat x3) zd9)) fun v1 =>
      if (!v1) = true then
       some (.inr (.inl (false, ())))
      else
       some (.inl (x1, (x2, ((IntKind.wrap .i64 (x3 + (1 : Int))), ()))))
     else
      none
    else
     none
   else
    none
  else
   none
 else
  some (.inr (.inr ()))
abbrev wf (x0 : (List Group)) (x1 : (List Group)) : Prop := wfA [(.val (.sl 0 zk19) .f), (.val (.sl 0 zk19) .f)] (x0, (x1, ()))
noncomputable def raw (x0 : (List Group)) (x1 : (List Group)) : Option zt25 :=
 if (!(decide (((List.length x0 : Nat) : Int) = ((List.length x1 : Nat) : Int)))) = true then
  some ((), (false, ()))
 else
  if (laws_eqGroupS.pre4 (x0, (x1, ((0 : Int), ())))) = true then
   letB (laws_eqGroupS.fn4 (x0, (x1, ((0 : Int), ())))) fun v1 =>
   match v1 with
   | .inl y =>
    some ((), y)
   | .inr y =>
    some ((), (true, ()))
  else
   none
theorem ok4 (x1 x2 : List Group) (x3 : Int) (hp : pre4 (x1, (x2, (x3, ()))) = true) : Rounds pre4 mu4 fn4 (x1, (x2, (x3, ()))) (raw4 x1 x2 x3) := by
  unfold raw4
  by_cases hlt : x3 < (x1.length : Int)
  · obtain ⟨h1, h2, h3, h4⟩ := eq_next hp hlt zd9
    simp only [letB, hlt, h1, h2, decide_true, if_true]
    by_cases h : x1.getD x3.toNat zd9 = x2.getD x3.toNat zd9
    · rw [if_neg (by rw [laws_eqGroup, same_true.2 h]; simp)]; exact h3 h
    · rw [if_pos (by rw [laws_eqGroup, same_false.2 h]; rfl)]; exact h4 h
  · simp only [hlt, decide_false, Bool.false_eq_true, if_false]
    exact eq_end hp hlt
theorem eq (x0 x1 : List Group) (hw : wf x0 x1) : raw x0 x1 = some ((), (laws_eqGroupS x0 x1, ())) := by
  have h1 : x0.length ≤ maxLen := hw.1.1
  unfold raw laws_eqGroupS
  by_cases hl : (x0.length : Int) = (x1.length : Int)
  · rw [if_neg (by simp [hl]), if_pos (show pre4 _ = true from eq_start h1 hl)]
    unfold fn4
    by_cases he : x0 = x1
    · rw [eqFn_eq he, same_true.2 he]; rfl
    · rw [eqFn_ne he, same_false.2 he]; rfl
  · have : ¬ x0 = x1 := fun h => hl (by rw [h])
    rw [if_pos (by simp [hl]), same_false.2 this]
end laws_eqGroupS
def laws_toGroupS (xs : List Group) : List Group := xs
namespace laws_toGroupS
def pre (xs : List Group) : Bool := small xs && xs.all laws_toGroup.pre
noncomputable def pre3 := tcPreB (α := Group) laws_toGroup.pre
def fn3 := toFn (α := Group)
def mu3 := toMu (α := Group)
noncomputable def raw3 (x1 : (List Group)) (x2 : Int) (x3 : (List Group)) : Option (((List Group) × (Int × ((List Group) × Unit))) ⊕ ((List Group) × Unit)) :=
 if (decide (x2 < ((List.length x1 : Nat) : Int))) = true then
  if (decide ((0 : Int) ≤ x2)) = true then
   if (decide (x2 < ((List.length x1 : Nat) : Int))) = true then
    if (laws_toGroup.pre (List.getD x1 (Int.toNat x2) zd9)) = true then
     if (decide ((0 : Int) ≤ x2)) = true then
      if (decide (x2 < ((List.length x3 : Nat) : Int))) = true then
       some (.inl (x1, ((IntKind.wrap .i64 (x2 + (1 : Int))), ((List.modify x3 (Int.toNat x2) (fun z => (laws_toGroup (List.getD x1 (Int.toNat x2) zd9)))), ()))))
      else
       none
     else
      none
    else
     none
   else
    none
  else
   none
 else
  some (.inr (x3, ()))
abbrev wf (x0 : (List Group)) : Prop := wfA [(.val (.sl 0 zk19) .f)] (x0, ())
noncomputable def raw (x0 : (List Group)) : Option (Unit × ((List Group) × Unit)) :=
 if (decide ((0 : Int) ≤ ((List.length x0 : Nat) : Int))) = true then
  if (decide (((List.length x0 : Nat) : Int) ≤ ((List.length x0 : Nat) : Int))) = true then
   if (decide (((List.length x0 : Nat) : Int) ≤ (4294967296 : Int))) = true then
    if (laws_toGroupS.pre3 (x0, ((0 : Int), ((List.replicate (Int.toNat ((List.length x0 : Nat) : Int)) zd9), ())))) = true then
     letB (laws_toGroupS.fn3 (x0, ((0 : Int), ((List.replicate (Int.toNat ((List.length x0 : Nat) : Int)) zd9), ())))) fun v1 =>
     some ((), v1)
    else
     none
   else
    none
  else
   none
 else
  none
theorem ok3 (x1 : List Group) (x2 : Int) (x3 : List Group) (hp : pre3 (x1, (x2, (x3, ()))) = true) : Rounds pre3 mu3 fn3 (x1, (x2, (x3, ()))) (raw3 x1 x2 x3) := by
  unfold raw3
  by_cases hlt : x2 < (x1.length : Int)
  · obtain ⟨h1, h2, h3⟩ := tc_facts hp hlt zd9
    simp only [letB, hlt, h1, h2, h3, decide_true, if_true]
    exact tc_step hp hlt zd9 rfl
  · rw [if_neg (by simp [hlt])]; exact tc_end hp hlt
theorem eq (x0 : List Group) (hw : wf x0) (hp : pre x0 = true) : raw x0 = some ((), (laws_toGroupS x0, ())) := by
  have h1 : x0.length ≤ maxLen := hw.1.1
  simp only [pre, Bool.and_eq_true, small_iff] at hp
  unfold raw
  rw [if_pos (by simp), if_pos (by simp), if_pos (by simp; omega), if_pos (show pre3 _ = true from tc_start h1 hp.2 _)]
  rfl
end laws_toGroupS
theorem toGroupS_pre {xs : List Group} (h : wL w_Group xs ≤ 16777216) : laws_toGroupS.pre xs = true := by
  have hl := wL_nn w_Group_nn xs
  simp only [laws_toGroupS.pre, Bool.and_eq_true, small_iff]
  refine ⟨by omega, List.all_eq_true.2 fun x hx => toGroup_pre ?_⟩
  have := wL_get w_Group_nn hx
  omega
def laws_szGroupS (xs : List Group) (l : Int) : Int := szN (wL w_Group xs) l
namespace laws_szGroupS
def pre (_ : List Group) (l : Int) : Bool := decide (0 ≤ l) && decide (l ≤ maxLen)
def pre5 := swPre (α := Group)
def fn5 := swFn w_Group
def mu5 := szMu (α := Group)
noncomputable def raw5 (x1 : (List Group)) (x2 : Int) (x3 : Int) : Option (((List Group) × Mark) ⊕ ((Int × Unit) ⊕ (Int × Unit))) :=
 if (decide (x3 < ((List.length x1 : Nat) : Int))) = true then
  if (decide ((0 : Int) ≤ x3)) = true then
   if (decide (x3 < ((List.length x1 : Nat) : Int))) = true then
    if (laws_szGroup.pre (List.getD x1 (Int.toNat x3) zd9) x2) = true then
     letB (laws_szGroup (List.getD x1 (Int.toNat x3) zd9) x2) fun v1 =>
     if (decide (v1 < (0 : Int))) = true then
      some (.inr (.inl ((-1 : Int), ())))
     else
      some (.inl (x1, (v1, ((IntKind.wrap .i64 (x3 + (1 : Int))), ()))))
    else
     none
   else
    none
  else
   none
 else
  some (.inr (.inr (x2, ())))
abbrev wf (x0 : (List Group)) (x1 : Int) : Prop := wfA [(.val (.sl 0 zk19) .f), (.val (.int .i64) .f)] (x0, (x1, ()))
noncomputable def raw (x0 : (List Group)) (x1 : Int) : Option zt22 :=
 if (decide ((IntKind.wrap .i64 (x1 - ((List.length x0 : Nat) : Int))) < (0 : Int))) = true then
  some ((), ((-1 : Int), ()))
 else
  if (laws_szGroupS.pre5 (x0, ((IntKind.wrap .i64 (x1 - ((List.length x0 : Nat) : Int))), ((0 : Int), ())))) = true then
   letB (laws_szGroupS.fn5 (x0, ((IntKind.wrap .i64 (x1 - ((List.length x0 : Nat) : Int))), ((0 : Int), ())))) fun v1 =>
   match v1 with
   | .inl y =>
    some ((), y)
   | .inr y =>
    some ((), y)
  else
   none
theorem ok5 (x1 : List Group) (x2 x3 : Int) (hp : pre5 (x1, (x2, (x3, ()))) = true) : Rounds pre5 mu5 fn5 (x1, (x2, (x3, ()))) (raw5 x1 x2 x3) := by
  unfold raw5
  by_cases hlt : x3 < (x1.length : Int)
  · obtain ⟨h0, h1, h2⟩ := sw_facts hp
    have q : laws_szGroup.pre (x1.getD x3.toNat zd9) x2 = true := by simp only [laws_szGroup.pre, Bool.and_eq_true, decide_eq_true_eq]; exact ⟨h1, h2⟩
    simp only [letB, hlt, h0, q, decide_true, if_true]
    by_cases c : x2 - w_Group (x1.getD x3.toNat zd9) < 0
    · rw [show laws_szGroup (x1.getD x3.toNat zd9) x2 = -1 from szN_neg c, if_pos (by decide)]; exact sw_bad w_Group_nn hp hlt zd9 c
    · rw [show laws_szGroup (x1.getD x3.toNat zd9) x2 = x2 - w_Group (x1.getD x3.toNat zd9) from szN_pos c, if_neg (by rw [decide_eq_true_eq]; exact c)]; exact sw_good w_Group_nn hp hlt zd9 c
  · rw [if_neg (by simp [hlt])]; exact sw_end hp hlt
theorem eq (x0 : List Group) (x1 : Int) (hw : wf x0 x1) (hp : pre x0 x1 = true) : raw x0 x1 = some ((), (laws_szGroupS x0 x1, ())) := by
  have h1 : x0.length ≤ maxLen := hw.1.1
  simp only [pre, Bool.and_eq_true, decide_eq_true_eq] at hp
  have hM := maxLen_eq
  have hnn := sumW_nn w_Group_nn x0
  unfold raw
  rw [w64 (n := x1 - (x0.length : Int)) (by omega) (by omega)]
  by_cases c : x1 - (x0.length : Int) < 0
  · rw [if_pos (decide_eq_true c), show laws_szGroupS x0 x1 = -1 from szN_neg (by simp only [wL]; omega)]
  · rw [if_neg (by rw [decide_eq_true_eq]; exact c), if_pos (show pre5 _ = true from sw_start h1 (by omega) (by omega))]
    exact swFn_start x0 x1
end laws_szGroupS
def laws_markGroupS (xs : List Group) (k : Int) : List Group × Int := (mkL mk_Group cnt_Group xs k, k + cntL cnt_Group xs)
namespace laws_markGroupS
def pre (xs : List Group) (k : Int) : Bool := mPre cnt_Group xs k
def pre2 := mkPre cnt_Group
def fn2 := mkFn mk_Group cnt_Group
def mu2 := mkMu (α := Group)
noncomputable def raw2 (x1 : Int) (x2 : Int) (x3 : (List Group)) : Option ((Int × (Int × ((List Group) × Unit))) ⊕ (Int × ((List Group) × Unit))) :=
 if (decide (x2 < ((List.length x3 : Nat) : Int))) = true then
  if (decide ((0 : Int) ≤ x2)) = true then
   if (decide (x2 < ((List.length x3 : Nat) : Int))) = true then
    if (decide ((0 : Int) ≤ x2)) = true then
     if (decide (x2 < ((List.length (List.modify x3 (Int.toNat x2) (fun z => (x1, z.2))) : Nat) : Int))) = true then
      if (laws_markIntS.pre (List.getD (List.modify x3 (Int.toNat x2) (fun z => (x1, z.2))) (Int.toNat x2) zd9).2.1 (IntKind.wrap .i64 (x1 + (1 : Int)))) = true then
       if (decide ((0 : Int) ≤ x2)) = true then
        if (decide (x2 < ((List.length (List.modify (List.modify x3 (Int.toNat x2) (fun z => (x1, z.2))) (Int.toNat x2) (fun z => (z.1, ((laws_markIntS (List.getD (List.modify x3 (Int.toNat x2) (fun z_1 => (x1, z_1.2))) (Int.toNat x2) zd9).2.1 (IntKind.wrap .i64 (x1 + (1 : Int)))).1, z.2.2)))) : Nat) : Int))) = true then
         letB (laws_markIntS (List.getD (List.modify x3 (Int.toNat x2) (fun z => (x1, z.2))) (Int.toNat x2) zd9).2.1 (IntKind.wrap .i64 (x1 + (1 : Int)))) fun v1 =>
         if (laws_markIntS.pre (List.getD (List.modify (List.modify x3 (Int.toNat x2) (fun z => (x1, z.2))) (Int.toNat x2) (fun z => (z.1, ((laws_markIntS (List.getD (List.modify x3 (Int.toNat x2) (fun z_1 => (x1, z_1.2))) (Int.toNat x2) zd9).2.1 (IntKind.wrap .i64 (x1 + (1 : Int)))).1, z.2.2)))) (Int.toNat x2) zd9).2.2.1 v1.2) = true then
          if (decide ((0 : Int) ≤ x2)) = true then
           if (decide (x2 < ((List.length (List.modify (List.modify (List.modify x3 (Int.toNat x2) (fun z => (x1, z.2))) (Int.toNat x2) (fun z => (z.1, (v1.1, z.2.2)))) (Int.toNat x2) (fun z => (z.1, (z.2.1, ((laws_markIntS (List.getD (List.modify (List.modify x3 (Int.toNat x2) (fun z_1 => (x1, z_1.2))) (Int.toNat x2) (fun z_1 => (z_1.1, (v1.1, z_1.2.2)))) (Int.toNat x2) zd9).2.2.1 v1.2).1, z.2.2.2))))) : Nat) : Int))) = true then
            letB (laws_markIntS (List.getD (List.modify (List.modify x3 (Int.toNat x2) (fun z => (x1, z.2))) (Int.toNat x2) (fun z => (z.1, (v1.1, z.2.2)))) (Int.toNat x2) zd9).2.2.1 v1.2) fun v2 =>
            if (laws_markIntS.pre (List.getD (List.modify (List.modify (List.modify x3 (Int.toNat x2) (fun z => (x1, z.2))) (Int.toNat x2) (fun z => (z.1, (v1.1, z.2.2)))) (Int.toNat x2) (fun z => (z.1, (z.2.1, ((laws_markIntS (List.getD (List.modify (List.modify x3 (Int.toNat x2) (fun z_1 => (x1, z_1.2))) (Int.toNat x2) (fun z_1 => (z_1.1, (v1.1, z_1.2.2)))) (Int.toNat x2) zd9).2.2.1 v1.2).1, z.2.2.2))))) (Int.toNat x2) zd9).2.2.2.1 v2.2) = true then
             letB (laws_markIntS (List.getD (List.modify (List.modify (List.modify x3 (Int.toNat x2) (fun z => (x1, z.2))) (Int.toNat x2) (fun z => (z.1, (v1.1, z.2.2)))) (Int.toNat x2) (fun z => (z.1, (z.2.1, (v2.1, z.2.2.2))))) (Int.toNat x2) zd9).2.2.2.1 v2.2) fun v3 =>
             some (.inl (v3.2, ((IntKind.wrap .i64 (x2 + (1 : Int))), ((List.modify (List.modify (List.modify (List.modify x3 (Int.toNat x2) (fun z => (x1, z.2))) (Int.toNat x2) (fun z => (z.1, (v1.1, z.2.2)))) (Int.toNat x2) (fun z => (z.1, (z.2.1, (v2.1, z.2.2.2))))) (Int.toNat x2) (fun z => (z.1, (z.2.1, (z.2.2.1, (v3.1, z.2.2.2.2)))))), ()))))
            else
             none
           else
            none
          else
           none
         else
          none
        else
         none
       else
        none
      else
       none
     else
      none
    else
     none
   else
    none
  else
   none
 else
  some (.inr (x1, (x3, ())))
abbrev wf (x0 : (List Group)) (x1 : Int) : Prop := wfA [(.mut (.sl 0 zk19)), (.val (.int .i64) .f)] (x0, (x1, ()))
noncomputable def raw (x0 : (List Group)) (x1 : Int) : Option (((List Group) × Unit) × (Int × Unit)) :=
 if (laws_markGroupS.pre2 (x1, ((0 : Int), (x0, ())))) = true then
  letB (laws_markGroupS.fn2 (x1, ((0 : Int), (x0, ())))) fun v1 =>
  some (v1.2, (v1.1, ()))
 else
  none
theorem ok2 (x1 x2 : Int) (x3 : List Group) (hp : pre2 (x1, (x2, (x3, ()))) = true) : Rounds pre2 mu2 fn2 (x1, (x2, (x3, ()))) (raw2 x1 x2 x3) := by
  unfold raw2
  by_cases hlt : x2 < (x3.length : Int)
  · obtain ⟨h0, hk, hc, hn⟩ := mk_facts mk_Group_ok hp hlt zd9
    generalize he : x3.getD x2.toNat zd9 = e at hc
    simp only [cnt_Group] at hc
    have n1 := cntL_nn mk_Int_ok e.2.1
    have n2 := cntL_nn mk_Int_ok e.2.2.1
    have n3 := cntL_nn mk_Int_ok e.2.2.2.1
    have w0 : IntKind.wrap .i64 (x1 + 1) = x1 + 1 := w64 (by omega) (by omega)
    have q1 : laws_markIntS.pre e.2.1 (x1 + 1) = true := markIntS_pre (by omega) (by omega)
    have q2 : laws_markIntS.pre e.2.2.1 (x1 + 1 + cntL cnt_Int e.2.1) = true := markIntS_pre (by omega) (by omega)
    have q3 : laws_markIntS.pre e.2.2.2.1 (x1 + 1 + cntL cnt_Int e.2.1 + cntL cnt_Int e.2.2.1) = true := markIntS_pre (by omega) (by omega)
    simp only [letB, List.length_modify, List.modify_modify_eq, getD_modify hn, Function.comp, hlt, h0, he, decide_true, if_true, w0, q1, q2, q3, markIntS_eq]
    exact mk_step mk_Group_ok hp hlt zd9 (by rw [he]; simp only [cnt_Group]; omega) (by rw [he]; rfl)
  · rw [if_neg (by simp [hlt])]; exact mk_end hp hlt
theorem eq (x0 : List Group) (x1 : Int) (_ : wf x0 x1) (hp : pre x0 x1 = true) : raw x0 x1 = some (((laws_markGroupS x0 x1).1, ()), ((laws_markGroupS x0 x1).2, ())) := by
  unfold raw
  rw [if_pos (show pre2 _ = true from mk_start mk_Group_ok hp)]
  rfl
end laws_markGroupS
theorem markGroupS_eq (xs : List Group) (k : Int) : laws_markGroupS xs k = (mkL mk_Group cnt_Group xs k, k + cntL cnt_Group xs) := rfl
theorem markGroupS_pre {xs : List Group} {k : Int} (h0 : 0 ≤ k) (h1 : k + cntL cnt_Group xs ≤ 134217728) : laws_markGroupS.pre xs k = true := mPre_iff.2 ⟨h0, h1⟩
noncomputable def laws_heldGroupS (xs : List Group) (k : Int) : Int := heldN (mkL mk_Group cnt_Group) (cntL cnt_Group) xs k
namespace laws_heldGroupS
def pre (xs : List Group) (k : Int) : Bool := mPre cnt_Group xs k
def pre2 := hePre cnt_Group
noncomputable def fn2 := heFn mk_Group cnt_Group
def mu2 := heMu (α := Group)
noncomputable def raw2 (x1 : (List Group)) (x2 : Int) (x3 : Int) : Option (((List Group) × Mark) ⊕ ((Int × Unit) ⊕ (Int × Unit))) :=
 if (decide (x3 < ((List.length x1 : Nat) : Int))) = true then
  if (decide ((0 : Int) ≤ x3)) = true then
   if (decide (x3 < ((List.length x1 : Nat) : Int))) = true then
    if (!(decide ((List.getD x1 (Int.toNat x3) zd9).1 = x2))) = true then
     some (.inr (.inl ((-1 : Int), ())))
    else
     if (decide ((0 : Int) ≤ x3)) = true then
      if (decide (x3 < ((List.length x1 : Nat) : Int))) = true then
       if (laws_heldIntS.pre (List.getD x1 (Int.toNat x3) zd9).2.1 (IntKind.wrap .i64 (x2 + (1 : Int)))) = true then
        letB (laws_heldIntS (List.getD x1 (Int.toNat x3) zd9).2.1 (IntKind.wrap .i64 (x2 + (1 : Int)))) fun v1 =>
        if (decide (v1 < (0 : Int))) = true then
         some (.inr (.inl ((-1 : Int), ())))
        else
         if (decide ((0 : Int) ≤ x3)) = true then
          if (decide (x3 < ((List.length x1 : Nat) : Int))) = true then
           if (laws_heldIntS.pre (List.getD x1 (Int.toNat x3) zd9).2.2.1 v1) = true then
            letB (laws_heldIntS (List.getD x1 (Int.toNat x3) zd9).2.2.1 v1) fun v2 =>
            if (decide (v2 < (0 : Int))) = true then
             some (.inr (.inl ((-1 : Int), ())))
            else
             if (decide ((0 : Int) ≤ x3)) = true then
              if (decide (x3 < ((List.length x1 : Nat) : Int))) = true then
               if (laws_heldIntS.pre (List.getD x1 (Int.toNat x3) zd9).2.2.2.1 v2) = true then
                letB (laws_heldIntS (List.getD x1 (Int.toNat x3) zd9).2.2.2.1 v2) fun v3 =>
                if (decide (v3 < (0 : Int))) = true then
                 some (.inr (.inl ((-1 : Int), ())))
                else
                 some (.inl (x1, (v3, ((IntKind.wrap .i64 (x3 + (1 : Int))), ()))))
               else
                none
              else
               none
             else
              none
           else
            none
          else
           none
         else
          none
       else
        none
      else
       none
     else
      none
   else
    none
  else
   none
 else
  some (.inr (.inr (x2, ())))
abbrev wf (x0 : (List Group)) (x1 : Int) : Prop := wfA [(.val (.sl 0 zk19) .f), (.val (.int .i64) .f)] (x0, (x1, ()))
noncomputable def raw (x0 : (List Group)) (x1 : Int) : Option zt22 :=
 if (laws_heldGroupS.pre2 (x0, (x1, ((0 : Int), ())))) = true then
  letB (laws_heldGroupS.fn2 (x0, (x1, ((0 : Int), ())))) fun v1 =>
  match v1 with
  | .inl y =>
   some ((), y)
  | .inr y =>
   some ((), y)
 else
  none
theorem ok2 (x1 : List Group) (x2 x3 : Int) (hp : pre2 (x1, (x2, (x3, ()))) = true) : Rounds pre2 mu2 fn2 (x1, (x2, (x3, ()))) (raw2 x1 x2 x3) := by
  unfold raw2
  by_cases hlt : x3 < (x1.length : Int)
  · obtain ⟨h0, hk, hc⟩ := he_facts mk_Group_ok hp hlt zd9
    have bad := he_bad (m := mk_Group) (g := cnt_Group) hp hlt zd9
    have good := fun K hK => he_good mk_Group_ok (K := K) hp hlt zd9 hK
    generalize x1.getD x3.toNat zd9 = e at *
    simp only [cnt_Group] at hc
    have n1 := cntL_nn mk_Int_ok e.2.1
    have n2 := cntL_nn mk_Int_ok e.2.2.1
    have n3 := cntL_nn mk_Int_ok e.2.2.2.1
    have w0 : IntKind.wrap .i64 (x2 + 1) = x2 + 1 := w64 (by omega) (by omega)
    have q1 : laws_heldIntS.pre e.2.1 (x2 + 1) = true := heldIntS_pre (by omega) (by omega)
    have q2 : laws_heldIntS.pre e.2.2.1 (x2 + 1 + cntL cnt_Int e.2.1) = true := heldIntS_pre (by omega) (by omega)
    have q3 : laws_heldIntS.pre e.2.2.2.1 (x2 + 1 + cntL cnt_Int e.2.1 + cntL cnt_Int e.2.2.1) = true := heldIntS_pre (by omega) (by omega)
    simp only [letB, hlt, h0, decide_true, if_true, w0, q1, q2, q3]
    by_cases c0 : e.1 = x2
    case neg => rw [if_pos (by simp [c0])]; exact bad fun h => c0 (congrArg (fun z : Group => z.1) h)
    rw [if_neg (by simp [c0])]
    by_cases c1 : e.2.1 = mkL mk_Int cnt_Int e.2.1 (x2 + 1)
    case neg => rw [show laws_heldIntS e.2.1 (x2 + 1) = -1 from heldIntS_neg c1, if_pos (by decide)]; exact bad fun h => c1 ((congrArg (fun z : Group => z.2.1) h).trans (by simp only [mk_Group]))
    rw [show laws_heldIntS e.2.1 (x2 + 1) = x2 + 1 + cntL cnt_Int e.2.1 from heldIntS_pos c1, if_neg (by rw [decide_eq_true_eq]; omega)]
    try simp only [if_true, w0, q1, q2, q3]
    by_cases c2 : e.2.2.1 = mkL mk_Int cnt_Int e.2.2.1 (x2 + 1 + cntL cnt_Int e.2.1)
    case neg => rw [show laws_heldIntS e.2.2.1 (x2 + 1 + cntL cnt_Int e.2.1) = -1 from heldIntS_neg c2, if_pos (by decide)]; exact bad fun h => c2 ((congrArg (fun z : Group => z.2.2.1) h).trans (by simp only [mk_Group]))
    rw [show laws_heldIntS e.2.2.1 (x2 + 1 + cntL cnt_Int e.2.1) = x2 + 1 + cntL cnt_Int e.2.1 + cntL cnt_Int e.2.2.1 from heldIntS_pos c2, if_neg (by rw [decide_eq_true_eq]; omega)]
    try simp only [if_true, w0, q1, q2, q3]
    by_cases c3 : e.2.2.2.1 = mkL mk_Int cnt_Int e.2.2.2.1 (x2 + 1 + cntL cnt_Int e.2.1 + cntL cnt_Int e.2.2.1)
    case neg => rw [show laws_heldIntS e.2.2.2.1 (x2 + 1 + cntL cnt_Int e.2.1 + cntL cnt_Int e.2.2.1) = -1 from heldIntS_neg c3, if_pos (by decide)]; exact bad fun h => c3 ((congrArg (fun z : Group => z.2.2.2.1) h).trans (by simp only [mk_Group]))
    rw [show laws_heldIntS e.2.2.2.1 (x2 + 1 + cntL cnt_Int e.2.1 + cntL cnt_Int e.2.2.1) = x2 + 1 + cntL cnt_Int e.2.1 + cntL cnt_Int e.2.2.1 + cntL cnt_Int e.2.2.2.1 from heldIntS_pos c3, if_neg (by rw [decide_eq_true_eq]; omega)]
    exact good _ (by simp only [cnt_Group]; omega) (Prod.ext c0 (Prod.ext c1 (Prod.ext c2 (Prod.ext c3 rfl))))
  · rw [if_neg (by simp [hlt])]; exact he_end hp hlt
theorem eq (x0 : List Group) (x1 : Int) (_ : wf x0 x1) (hp : pre x0 x1 = true) : raw x0 x1 = some ((), (laws_heldGroupS x0 x1, ())) := by
  unfold raw
  rw [if_pos (show pre2 _ = true from he_start mk_Group_ok hp)]
  exact heFn_start x0 x1
end laws_heldGroupS
end Go.Aw.Pl
