import Derived.Test.YtpcdhadfpeojkaaPda
namespace Go.Aw.Pl
open Go Go.Aw
set_option linter.unusedVariables false
set_option linter.unusedSimpArgs false
set_option maxHeartbeats 1000000
def mkHeadP (m : Maker) (w : Int) : Prop := 0 ≤ m.1 ∧ m.1 ≤ 3 ∧ 0 ≤ m.2.1 ∧ m.2.1 ≤ 3 ∧ 0 ≤ m.2.2.1 ∧ m.2.2.1 ≤ 100000 ∧ -1 ≤ m.2.2.2.1 ∧ m.2.2.2.1 ≤ 100000 ∧ (m.2.2.2.2.1.length : Int) ≤ w ∧ (m.2.2.2.2.1.length : Int) ≤ m.2.2.2.1 + 1 ∧ (0 ≤ m.2.2.2.1 → 0 < m.2.2.2.2.1.length)
def makerP (m : Maker) (w : Int) : Prop := mkHeadP m w ∧ (∀ j, j < m.2.2.2.2.1.length → (m.2.2.2.2.1.getD j zd23).1 = m.2.2.2.1 - ((m.2.2.2.2.1.length : Int) - 1 - j)) ∧ (∀ x ∈ m.2.2.2.2.1, 0 ≤ x.2.1 ∧ x.2.1 ≤ 100000) ∧ m.2.2.2.2.1.Pairwise (fun a b => a.2.1 < b.2.1)
theorem makerOf_P {xs : List Maker} {row who w : Int} (h : ∀ m ∈ xs, makerP m w) (hr : 0 ≤ row ∧ row ≤ 3) (hq : 0 ≤ who ∧ who ≤ 3) (hw : 0 ≤ w) :
 makerP (MakerOf xs row who) w ∧ (MakerOf xs row who).1 = row ∧ (MakerOf xs row who).2.1 = who ∧ (MakerOf xs row who ∈ xs ∨ (MakerOf xs row who).2.2.2.2.1 = []) := by
 unfold MakerOf
 cases hf : xs.find? (isMk row who) with
 | none =>
  have hz : makerP (row, (who, ((0 : Int), ((-1 : Int), (([] : List Mark), ()))))) w := ⟨⟨hr.1, hr.2, hq.1, hq.2, Int.le_refl _, by show (0 : Int) ≤ 100000; omega, Int.le_refl _, by show (-1 : Int) ≤ 100000; omega, hw, by show (0 : Int) ≤ -1 + 1; omega, fun h => absurd h (by show ¬ (0 : Int) ≤ -1; omega)⟩, fun j hj => absurd hj (Nat.not_lt_zero _), fun x hx => absurd hx List.not_mem_nil, List.Pairwise.nil⟩
  exact ⟨hz, rfl, rfl, .inr rfl⟩
 | some m =>
  have hm := List.mem_of_find?_eq_some hf
  have hp := List.find?_some hf
  simp only [isMk, Bool.and_eq_true, decide_eq_true_eq] at hp
  exact ⟨h m hm, hp.1, hp.2, .inl hm⟩
theorem getD_append_lt {α : Type} {a b : List α} {j : Nat} {d : α} (h : j < a.length) : (a ++ b).getD j d = a.getD j d := by
 rw [List.getD_eq_getElem?_getD, List.getD_eq_getElem?_getD, List.getElem?_append_left h]
theorem getD_append_eq {α : Type} {a : List α} {x d : α} : (a ++ [x]).getD a.length d = x := by
 rw [List.getD_eq_getElem?_getD, List.getElem?_append_right (Nat.le_refl _), Nat.sub_self]; rfl
theorem getD_drop {α : Type} {a : List α} {k j : Nat} {d : α} : (a.drop k).getD j d = a.getD (k + j) d := by
 rw [List.getD_eq_getElem?_getD, List.getD_eq_getElem?_getD, List.getElem?_drop]
theorem lastN_P {m : Maker} {w : Int} (h1 : 1 ≤ w) (hm : 0 < m.2.2.2.2.1.length) (h : makerP m (m.2.2.2.2.1.length : Int)) : makerP (m.1, (m.2.1, (m.2.2.1, (m.2.2.2.1, (lastN w m.2.2.2.2.1, ()))))) w := by
 obtain ⟨⟨h5, h6, h7, h8, h9, h10, h11, h12, h2, h3, h4⟩, k1, k2, k3⟩ := h
 have e : maxI w 0 = w := by unfold maxI; rw [if_pos (by omega)]
 have hl : (lastN w m.2.2.2.2.1).length = m.2.2.2.2.1.length - (m.2.2.2.2.1.length - w.toNat) := by unfold lastN; rw [e, List.length_drop]
 refine ⟨⟨h5, h6, h7, h8, h9, h10, h11, h12, ?_, ?_, fun _ => ?_⟩, fun j hj => ?_, fun x hx => k2 x (List.mem_of_mem_drop hx), k3.sublist (List.drop_sublist _ _)⟩
 · show ((lastN w m.2.2.2.2.1).length : Int) ≤ w; omega
 · show ((lastN w m.2.2.2.2.1).length : Int) ≤ m.2.2.2.1 + 1; omega
 · show 0 < (lastN w m.2.2.2.2.1).length; omega
 · show ((lastN w m.2.2.2.2.1).getD j _).1 = m.2.2.2.1 - (((lastN w m.2.2.2.2.1).length : Int) - 1 - j)
   have hj : j < (lastN w m.2.2.2.2.1).length := hj
   rw [hl] at hj ⊢
   unfold lastN
   rw [e, getD_drop, k1 _ (by omega)]
   omega
theorem makerPut_P {m : Maker} {w epoch seq off : Int} (h : makerP m w) (hw : 1 ≤ w) (he : epoch ≤ 100000) (hq : 0 ≤ seq ∧ seq ≤ 100000) (ho : 0 ≤ off ∧ off ≤ 100000) (hlt : ∀ x ∈ m.2.2.2.2.1, x.2.1 < off) (ha : (MakerAsk m epoch seq).1 = 0) :
 makerP (MakerPut m w epoch seq off) w ∧ (MakerPut m w epoch seq off).1 = m.1 ∧ (MakerPut m w epoch seq off).2.1 = m.2.1 ∧ ∀ x ∈ (MakerPut m w epoch seq off).2.2.2.2.1, x.2.1 ≤ off := by
 obtain ⟨⟨h5, h6, h7, h8, h9, h10, h11, h12, h2, h3, h4⟩, k1, k2, k3⟩ := h
 rw [show MakerPut m w epoch seq off = _ from if_pos ha]
 unfold MakerAsk at ha
 by_cases c1 : epoch < m.2.2.1
 · rw [if_pos c1] at ha; cases ha
 rw [if_neg c1] at ha
 by_cases c2 : m.2.2.1 < epoch
 · rw [if_pos c2] at ha
   by_cases c3 : seq = 0
   · rw [if_pos c2]
     subst c3
     refine ⟨lastN_P (m := (m.1, (m.2.1, (epoch, ((0 : Int), ([((0 : Int), (off, ()))], ())))))) hw (by show 0 < 1; omega) ⟨⟨h5, h6, h7, h8, by show 0 ≤ epoch; omega, he, by show (-1 : Int) ≤ 0; omega, by show (0 : Int) ≤ 100000; omega, Int.le_refl _, by show ((1 : Nat) : Int) ≤ 0 + 1; omega, fun _ => by show 0 < 1; omega⟩, fun j hj => ?_, fun x hx => ?_, List.pairwise_singleton _ _⟩, rfl, rfl, fun x hx => ?_⟩
     · have : j = 0 := by have : j < 1 := hj; omega
       subst this; rfl
     · rw [List.mem_singleton] at hx; subst hx; exact ho
     · have := List.mem_of_mem_drop hx
       rw [List.nil_append, List.mem_singleton] at this; subst this; exact Int.le_refl _
   · rw [if_neg c3] at ha; cases ha
 rw [if_neg c2] at ha
 have hee : epoch = m.2.2.1 := by omega
 by_cases c4 : m.2.2.2.1 < seq
 · rw [if_pos c4] at ha
   by_cases c5 : IntKind.wrap .i64 (seq - 1) = m.2.2.2.1
   · rw [w64 (by omega) (by omega)] at c5
     rw [if_neg c2]
     subst hee
     have hm : ∀ x ∈ m.2.2.2.2.1 ++ [(seq, (off, ()))], (0 ≤ x.2.1 ∧ x.2.1 ≤ 100000) ∧ x.2.1 ≤ off := by
      intro x hx
      rcases List.mem_append.1 hx with hx | hx
      · exact ⟨k2 x hx, Int.le_of_lt (hlt x hx)⟩
      · rw [List.mem_singleton] at hx; subst hx; exact ⟨ho, Int.le_refl _⟩
     refine ⟨lastN_P (m := (m.1, (m.2.1, (m.2.2.1, (seq, (m.2.2.2.2.1 ++ [(seq, (off, ()))], ())))))) hw (by simp) ⟨⟨h5, h6, h7, h8, h9, h10, by show -1 ≤ seq; omega, hq.2, Int.le_refl _, ?_, fun _ => by simp⟩, fun j hj => ?_, fun x hx => (hm x hx).1, ?_⟩, rfl, rfl, fun x hx => (hm x (List.mem_of_mem_drop hx)).2⟩
     · show ((m.2.2.2.2.1 ++ [(seq, (off, ()))]).length : Int) ≤ seq + 1
       rw [List.length_append, List.length_cons, List.length_nil]; omega
     · show ((m.2.2.2.2.1 ++ [(seq, (off, ()))]).getD j _).1 = seq - (((m.2.2.2.2.1 ++ [(seq, (off, ()))]).length : Int) - 1 - j)
       have hj : j < (m.2.2.2.2.1 ++ [(seq, (off, ()))]).length := hj
       rw [List.length_append, List.length_cons, List.length_nil] at hj ⊢
       by_cases c : j < m.2.2.2.2.1.length
       · rw [getD_append_lt c, k1 j c]; omega
       · rw [show j = m.2.2.2.2.1.length by omega, getD_append_eq]; show seq = _; omega
     · show (m.2.2.2.2.1 ++ [(seq, (off, ()))]).Pairwise _
       rw [List.pairwise_append]
       refine ⟨k3, List.pairwise_singleton _ _, fun a ha b hb => ?_⟩
       rw [List.mem_singleton] at hb; subst hb
       exact hlt a ha
   · rw [if_neg c5] at ha; cases ha
 · rw [if_neg c4] at ha
   split at ha <;> cases ha
def ltM (a b : Maker) : Prop := a.1 < b.1 ∨ (a.1 = b.1 ∧ a.2.1 < b.2.1)
theorem setMk_true {m : Maker} : (r : List Maker) → (∀ x ∈ r, ltM m x) → setMk m true r = r
 | [], _ => rfl
 | x :: r, h => by
  have hx := h x List.mem_cons_self
  have hk : isMk m.1 m.2.1 x = false := by
   simp only [isMk, Bool.and_eq_false_iff, decide_eq_false_iff_not]
   rcases hx with hx | hx <;> omega
  simp only [setMk, hk, cond_false, Bool.not_true, Bool.false_and]
  rw [setMk_true r fun y hy => h y (List.mem_cons_of_mem _ hy)]
theorem setMk_ok {m : Maker} : (xs : List Maker) → xs.Pairwise ltM → (setMk m false xs).Pairwise ltM ∧ ∀ x ∈ setMk m false xs, x = m ∨ x ∈ xs
 | [], _ => ⟨List.pairwise_singleton _ _, fun x hx => .inl (List.mem_singleton.1 hx)⟩
 | x :: r, h => by
  have hp := List.pairwise_cons.1 h
  simp only [setMk, cond_false, Bool.not_false, Bool.true_and]
  cases hk : isMk m.1 m.2.1 x
  · cases hl : laterM x m
    · have hxm : ltM x m := by
       simp only [isMk, Bool.and_eq_false_iff, decide_eq_false_iff_not] at hk
       simp only [laterM, Bool.or_eq_false_iff, Bool.and_eq_false_iff, decide_eq_false_iff_not] at hl
       unfold ltM
       omega
      have ih := setMk_ok (m := m) r hp.2
      refine ⟨List.pairwise_cons.2 ⟨fun y hy => ?_, ih.1⟩, fun y hy => ?_⟩
      · rcases ih.2 y hy with rfl | hy
        · exact hxm
        · exact hp.1 y hy
      · rcases List.mem_cons.1 hy with rfl | hy
        · exact .inr List.mem_cons_self
        · rcases ih.2 y hy with h | h
          · exact .inl h
          · exact .inr (List.mem_cons_of_mem _ h)
    · have hmx : ltM m x := by
       simp only [laterM, Bool.or_eq_true, Bool.and_eq_true, decide_eq_true_eq] at hl
       unfold ltM
       omega
      have hall : ∀ y ∈ r, ltM m y := fun y hy => by
       have := hp.1 y hy
       unfold ltM at *
       omega
      simp only [cond_true, cond_false]
      rw [setMk_true r hall]
      refine ⟨List.pairwise_cons.2 ⟨fun y hy => ?_, h⟩, fun y hy => ?_⟩
      · rcases List.mem_cons.1 hy with rfl | hy
        · exact hmx
        · exact hall y hy
      · rcases List.mem_cons.1 hy with h | h
        · exact .inl h
        · exact .inr h
  · simp only [isMk, Bool.and_eq_true, decide_eq_true_eq] at hk
    have hall : ∀ y ∈ r, ltM m y := fun y hy => by
     have := hp.1 y hy
     unfold ltM at *
     omega
    simp only [cond_true]
    rw [setMk_true r hall]
    refine ⟨List.pairwise_cons.2 ⟨hall, hp.2⟩, fun y hy => ?_⟩
    rcases List.mem_cons.1 hy with h | h
    · exact .inl h
    · exact .inr (List.mem_cons_of_mem _ h)
open Classical in
noncomputable def B (p : Prop) : Bool := decide p
theorem B_iff {p : Prop} : B p = true ↔ p := by simp [B]
def mksP (s : Setup) (rows : List Row) (ms : List Maker) : Prop := (∀ m ∈ ms, makerP m s.2.1 ∧ m.1 < s.1 ∧ ∀ x ∈ m.2.2.2.2.1, x.2.1 < (rows.getD m.1.toNat zd9).2.1) ∧ ms.Pairwise ltM
def KeepP (s : Setup) (k : Keep) : Prop :=
 (SetupOk s = true ∧ (k.1.length : Int) = s.1 ∧ k.2.2.1.length = 2 ∧ k.2.2.2.2.1.length = 4 ∧ k.2.2.2.2.2.1.length = 4 ∧ 0 ≤ k.2.2.2.1 ∧ k.2.2.2.1 ≤ 100000) ∧ (∀ r ∈ k.1, RowOk r = true) ∧ (∀ g ∈ k.2.2.1, GroupOk g s.1 = true) ∧ (∀ d ∈ k.2.2.2.2.1, 0 ≤ d ∧ d ≤ 100000) ∧ (∀ a ∈ k.2.2.2.2.2.1, AnswerOk a = true) ∧ mksP s k.1 k.2.1
theorem setup_facts {s : Setup} (h : SetupOk s = true) : 1 ≤ s.1 ∧ s.1 ≤ 4 ∧ 1 ≤ s.2.1 ∧ s.2.1 ≤ 5 ∧ 1 ≤ s.2.2.1 ∧ s.2.2.1 ≤ 8 ∧ 0 ≤ s.2.2.2.1 ∧ s.2.2.2.1 ≤ 60 := by
 simp only [SetupOk, impl_within, Bool.and_eq_true, decide_eq_true_eq] at h
 omega
theorem cmd_facts {c : Cmd} (h : CmdOk c = true) (h0 : 0 ≤ c.1) : c.1 ≤ 3 ∧ (1 ≤ c.2.1 ∧ c.2.1 ≤ 100000) ∧ (1 ≤ c.2.2.1 ∧ c.2.2.1 ≤ 10) ∧ (0 ≤ c.2.2.2.1 ∧ c.2.2.2.1 ≤ 100000) ∧ (0 ≤ c.2.2.2.2.1 ∧ c.2.2.2.2.1 ≤ 100000) ∧ (0 ≤ c.2.2.2.2.2.1 ∧ c.2.2.2.2.2.1 ≤ 100000) ∧ wordsOk c.2.2.2.2.2.2.1 = true ∧ wordsOk c.2.2.2.2.2.2.2.1 = true := by
 unfold CmdOk at h
 rw [if_neg (by omega)] at h
 simp only [impl_within, Bool.and_eq_true, decide_eq_true_eq] at h
 obtain ⟨⟨_, h1⟩, h2, h3, h4, h5, h6, h7, h8⟩ := h
 exact ⟨h1, h2, h3, h4, h5, h6, h7, h8⟩
theorem asc_lenF {α : Type} {f : α → Int} {n : Int} : (l : List α) → (a : Int) → (∀ m ∈ l, a ≤ f m ∧ f m < n) → l.Pairwise (fun x y => f x < f y) → l.length ≤ (n - a).toNat
 | [], _, _, _ => Nat.zero_le _
 | m :: r, a, h, hp => by
  have h1 := h m List.mem_cons_self
  have := asc_lenF (f := f) (n := n) r (f m + 1) (fun x hx => by have h2 : f m < f x := (List.pairwise_cons.1 hp).1 x hx; have := h x (List.mem_cons_of_mem _ hx); omega) (List.pairwise_cons.1 hp).2
  simp only [List.length_cons]; omega
theorem mks_len {s : Setup} {rows : List Row} {ms : List Maker} (h : mksP s rows ms) : ms.length ≤ 16 := by
 have := asc_lenF (f := fun m : Maker => 4 * m.1 + m.2.1) (n := 16) ms 0 (fun m hm => by
  obtain ⟨⟨⟨h1, h2, h3, h4, _⟩, _⟩, _⟩ := h.1 m hm
  omega) (List.Pairwise.imp_of_mem (fun {a b} ha hb hab => by
   obtain ⟨⟨⟨h1, h2, h3, h4, _⟩, _⟩, _⟩ := h.1 a ha
   obtain ⟨⟨⟨g1, g2, g3, g4, _⟩, _⟩, _⟩ := h.1 b hb
   unfold ltM at hab
   omega) h.2)
 omega
theorem mks_S {s : Setup} {rows : List Row} {ms : List Maker} (hs : s.2.1 ≤ 5) (h : mksP s rows ms) : mksS ms = true := by
 rw [mksS_iff]
 have := mks_len h
 refine ⟨by omega, fun m hm => ?_⟩
 obtain ⟨⟨⟨_, _, _, _, _, _, _, _, h2, _⟩, _⟩, _⟩ := h.1 m hm
 omega
theorem row_S {r : Row} (h : RowOk r = true) : less r.2.2.1 = true ∧ small r.2.2.1 = true := by
 have := (rowOk_iff.1 h).1.2.2.2
 rw [less_iff, small_iff]; omega
theorem keep_S {s : Setup} {k : Keep} (h : KeepP s k) : keepS k = true := by
 obtain ⟨⟨h0, h1, h2, h3, h4, h5, h6⟩, k1, k2, k3, k4, k5⟩ := h
 have hs := setup_facts h0
 have hm := mksS_iff.1 (mks_S (by omega) k5)
 simp only [keepS, Bool.and_eq_true, List.all_eq_true, small_iff]
 exact ⟨by omega, fun r hr => small_iff.1 (row_S (k1 r hr)).2, hm.1, hm.2, by omega, fun g hg => (groupOk_S (k2 g hg) hs.2.1).1, by omega, by omega⟩
def ansN (code n : Int) : Answer := (code, (n, (([] : List UInt8), (([] : List UInt8), ()))))
theorem ans_ok {code n : Int} (h0 : 0 ≤ code) (h1 : code ≤ 9) (h2 : -1 ≤ n) (h3 : n ≤ 100000) : AnswerOk (ansN code n) = true := by
 have hw : wordsOk [] = true := by decide
 show AnswerOk (code, (n, (([] : List UInt8), (([] : List UInt8), ())))) = true
 simp only [AnswerOk, impl_within, Bool.and_eq_true, decide_eq_true_eq, hw]
 exact ⟨⟨h0, h1⟩, ⟨h2, h3⟩, trivial, trivial⟩
def setGroup (k : Keep) (i : Int) (g : Group) : Keep := (k.1, (k.2.1, (k.2.2.1.modify i.toNat (fun _ => g), k.2.2.2)))
def grpAt (k : Keep) (c : Cmd) : Group := k.2.2.1.getD c.2.2.2.1.toNat zd7
def doGroup (s : Setup) (k : Keep) (c : Cmd) : Keep × Answer :=
 if c.2.2.1 = 4 then (setGroup k c.2.2.2.1 (GroupJoin (grpAt k c) c.1 k.2.2.2.1), ansN 0 (GroupJoin (grpAt k c) c.1 k.2.2.2.1).1)
 else if c.2.2.1 = 5 then (setGroup k c.2.2.2.1 (GroupLeave (grpAt k c) c.1), ansN 0 (GroupLeave (grpAt k c) c.1).1)
 else if c.2.2.1 = 6 then cond (GroupMark (grpAt k c) c.1 (grpAt k c).1 c.2.2.2.2.1 c.2.2.2.2.2.1).2 (setGroup k c.2.2.2.1 (GroupMark (grpAt k c) c.1 (grpAt k c).1 c.2.2.2.2.1 c.2.2.2.2.2.1).1, ansN 0 c.2.2.2.2.2.1) (k, ansN 9 0)
 else if s.1 ≤ c.2.2.2.2.1 then (k, ansN 5 0) else (k, ansN 0 ((grpAt k c).2.2.2.1.getD c.2.2.2.2.1.toNat 0))
theorem getD_modify {α : Type} {l : List α} {i : Nat} {v d : α} (h : i < l.length) : (l.modify i (fun _ => v)).getD i d = v := by
 rw [modify_const, List.getD_eq_getElem?_getD, List.getElem?_set_self h]; rfl
theorem getD_modify_ne {α : Type} {l : List α} {i j : Nat} {v d : α} (h : i ≠ j) : (l.modify i (fun _ => v)).getD j d = l.getD j d := by
 rw [modify_const, List.getD_eq_getElem?_getD, List.getD_eq_getElem?_getD, List.getElem?_set_ne h]
def cmdP (s : Setup) (k : Keep) (c : Cmd) : Prop := KeepP s k ∧ CmdOk c = true ∧ 0 ≤ c.1
namespace spec_l6Group
noncomputable def pre (s : Setup) (k : Keep) (c : Cmd) : Bool := B (cmdP s k c ∧ c.2.2.2.1 < 2)
abbrev wf (x0 : Setup) (x1 : zt1) (x2 : Cmd) : Prop := wfA [(.val zk27 .f), (.val zk3 .o), (.val zk8 .f)] (x0, (x1, (x2, ())))
noncomputable def raw (x0 : Setup) (x1 : zt1) (x2 : Cmd) : Option (Unit × (zt1 × (Answer × Unit))) :=
 if (decide ((0 : Int) ≤ x2.2.2.2.1)) = true then
 if (decide (x2.2.2.2.1 < ((List.length x1.2.2.1 : Nat) : Int))) = true then
 if (decide (x2.2.2.1 = (4 : Int))) = true then
 if (spec_GroupJoin.pre (List.getD x1.2.2.1 (Int.toNat x2.2.2.2.1) zd7) x2.1 x1.2.2.2.1) = true then
 if (decide ((0 : Int) ≤ x2.2.2.2.1)) = true then
 if (decide (x2.2.2.2.1 < ((List.length x1.2.2.1 : Nat) : Int))) = true then
 if (decide ((0 : Int) ≤ x2.2.2.2.1)) = true then
 if (decide (x2.2.2.2.1 < ((List.length (List.modify x1.2.2.1 (Int.toNat x2.2.2.2.1) (fun z => (GroupJoin (List.getD x1.2.2.1 (Int.toNat x2.2.2.2.1) zd7) x2.1 x1.2.2.2.1))) : Nat) : Int))) = true then
 some ((), ((x1.1, (x1.2.1, ((List.modify x1.2.2.1 (Int.toNat x2.2.2.2.1) (fun z => (GroupJoin (List.getD x1.2.2.1 (Int.toNat x2.2.2.2.1) zd7) x2.1 x1.2.2.2.1))), x1.2.2.2))), (((0 : Int), ((List.getD (List.modify x1.2.2.1 (Int.toNat x2.2.2.2.1) (fun z => (GroupJoin (List.getD x1.2.2.1 (Int.toNat x2.2.2.2.1) zd7) x2.1 x1.2.2.2.1))) (Int.toNat x2.2.2.2.1) zd7).1, (([] : List UInt8), (([] : List UInt8), ())))), ())))
 else
 none
 else
 none
 else
 none
 else
 none
 else
 none
 else
 if (decide (x2.2.2.1 = (5 : Int))) = true then
 if (spec_GroupLeave.pre (List.getD x1.2.2.1 (Int.toNat x2.2.2.2.1) zd7) x2.1) = true then
 if (decide ((0 : Int) ≤ x2.2.2.2.1)) = true then
 if (decide (x2.2.2.2.1 < ((List.length x1.2.2.1 : Nat) : Int))) = true then
 if (decide ((0 : Int) ≤ x2.2.2.2.1)) = true then
 if (decide (x2.2.2.2.1 < ((List.length (List.modify x1.2.2.1 (Int.toNat x2.2.2.2.1) (fun z => (GroupLeave (List.getD x1.2.2.1 (Int.toNat x2.2.2.2.1) zd7) x2.1))) : Nat) : Int))) = true then
 some ((), ((x1.1, (x1.2.1, ((List.modify x1.2.2.1 (Int.toNat x2.2.2.2.1) (fun z => (GroupLeave (List.getD x1.2.2.1 (Int.toNat x2.2.2.2.1) zd7) x2.1))), x1.2.2.2))), (((0 : Int), ((List.getD (List.modify x1.2.2.1 (Int.toNat x2.2.2.2.1) (fun z => (GroupLeave (List.getD x1.2.2.1 (Int.toNat x2.2.2.2.1) zd7) x2.1))) (Int.toNat x2.2.2.2.1) zd7).1, (([] : List UInt8), (([] : List UInt8), ())))), ())))
 else
 none
 else
 none
 else
 none
 else
 none
 else
 none
 else
 if (decide (x2.2.2.1 = (6 : Int))) = true then
 if (spec_GroupMark.pre (List.getD x1.2.2.1 (Int.toNat x2.2.2.2.1) zd7) x2.1 (List.getD x1.2.2.1 (Int.toNat x2.2.2.2.1) zd7).1 x2.2.2.2.2.1 x2.2.2.2.2.2.1) = true then
 letB (GroupMark (List.getD x1.2.2.1 (Int.toNat x2.2.2.2.1) zd7) x2.1 (List.getD x1.2.2.1 (Int.toNat x2.2.2.2.1) zd7).1 x2.2.2.2.2.1 x2.2.2.2.2.2.1) fun v1 =>
 if (!v1.2) = true then
 some ((), (x1, (((9 : Int), zd6), ())))
 else
 if (decide ((0 : Int) ≤ x2.2.2.2.1)) = true then
 if (decide (x2.2.2.2.1 < ((List.length x1.2.2.1 : Nat) : Int))) = true then
 some ((), ((x1.1, (x1.2.1, ((List.modify x1.2.2.1 (Int.toNat x2.2.2.2.1) (fun z => v1.1)), x1.2.2.2))), (((0 : Int), (x2.2.2.2.2.2.1, (([] : List UInt8), (([] : List UInt8), ())))), ())))
 else
 none
 else
 none
 else
 none
 else
 if (decide (x0.1 ≤ x2.2.2.2.2.1)) = true then
 some ((), (x1, (((5 : Int), zd6), ())))
 else
 if (decide ((0 : Int) ≤ x2.2.2.2.2.1)) = true then
 if (decide (x2.2.2.2.2.1 < ((List.length (List.getD x1.2.2.1 (Int.toNat x2.2.2.2.1) zd7).2.2.2.1 : Nat) : Int))) = true then
 some ((), (x1, (((0 : Int), ((List.getD (List.getD x1.2.2.1 (Int.toNat x2.2.2.2.1) zd7).2.2.2.1 (Int.toNat x2.2.2.2.2.1) (0 : Int)), (([] : List UInt8), (([] : List UInt8), ())))), ())))
 else
 none
 else
 none
 else
 none
 else
 none
theorem eq (x0 : Setup) (x1 : Keep) (x2 : Cmd) (_ : wf x0 x1 x2) (hp : pre x0 x1 x2 = true) : raw x0 x1 x2 = some ((), ((doGroup x0 x1 x2).1, ((doGroup x0 x1 x2).2, ()))) := by
 obtain ⟨⟨hk, hc, hw⟩, hA⟩ := B_iff.1 hp
 obtain ⟨⟨h0, h1, h2, h3, h4, h5, h6⟩, k1, k2, k3, k4, k5⟩ := hk
 have hs := setup_facts h0
 have cf := cmd_facts hc hw
 have hA0 := cf.2.2.2.1.1
 have hAl : x2.2.2.2.1 < (x1.2.2.1.length : Int) := by omega
 have hn : x2.2.2.2.1.toNat < x1.2.2.1.length := by omega
 have hg : GroupOk (grpAt x1 x2) x0.1 = true := k2 _ (getD_mem hn _)
 have hgs := (groupOk_S hg hs.2.1).1
 have ho := (groupOk_iff.1 hg).1.2.1
 refine W_eq2 ?_
 unfold raw doGroup
 refine W_if (decide_eq_true hA0) (W_if (decide_eq_true hAl) ?_)
 show Wp (if decide (x2.2.2.1 = 4) = true then (if spec_GroupJoin.pre (grpAt x1 x2) x2.1 x1.2.2.2.1 = true then _ else none) else _) _
 have ml : ∀ g : Group, decide (x2.2.2.2.1 < (((x1.2.2.1.modify x2.2.2.2.1.toNat (fun _ => g)).length : Nat) : Int)) = true := fun g => by rw [List.length_modify]; exact decide_eq_true hAl
 by_cases c1 : x2.2.2.1 = 4
 · rw [if_pos c1]
   refine W_if (decide_eq_true c1) (W_if (show spec_GroupJoin.pre _ _ _ = true from hgs) (W_if (decide_eq_true hA0) (W_if (decide_eq_true hAl) (W_if (decide_eq_true hA0) (W_if (ml _) (W_some ?_))))))
   show (setGroup x1 x2.2.2.2.1 (GroupJoin (grpAt x1 x2) x2.1 x1.2.2.2.1), ansN 0 ((x1.2.2.1.modify x2.2.2.2.1.toNat (fun _ => GroupJoin (grpAt x1 x2) x2.1 x1.2.2.2.1)).getD x2.2.2.2.1.toNat zd7).1) = _
   rw [getD_modify hn]
 rw [if_neg c1]
 refine W_else (by rw [decide_eq_true_eq]; exact c1) ?_
 by_cases c2 : x2.2.2.1 = 5
 · rw [if_pos c2]
   refine W_if (decide_eq_true c2) (W_if (show spec_GroupLeave.pre _ _ = true from hgs) (W_if (decide_eq_true hA0) (W_if (decide_eq_true hAl) (W_if (decide_eq_true hA0) (W_if (ml _) (W_some ?_))))))
   show (setGroup x1 x2.2.2.2.1 (GroupLeave (grpAt x1 x2) x2.1), ansN 0 ((x1.2.2.1.modify x2.2.2.2.1.toNat (fun _ => GroupLeave (grpAt x1 x2) x2.1)).getD x2.2.2.2.1.toNat zd7).1) = _
   rw [getD_modify hn]
 rw [if_neg c2]
 refine W_else (by rw [decide_eq_true_eq]; exact c2) ?_
 by_cases c3 : x2.2.2.1 = 6
 · rw [if_pos c3]
   refine W_if (decide_eq_true c3) (W_if (show spec_GroupMark.pre (grpAt x1 x2) _ _ _ _ = true from hgs) (W_let ?_))
   show Wp (if (!(GroupMark (grpAt x1 x2) x2.1 (grpAt x1 x2).1 x2.2.2.2.2.1 x2.2.2.2.2.2.1).2) = true then _ else _) _
   cases h : (GroupMark (grpAt x1 x2) x2.1 (grpAt x1 x2).1 x2.2.2.2.2.1 x2.2.2.2.2.2.1).2
   · exact W_if rfl (W_some rfl)
   · exact W_else (by decide) (W_if (decide_eq_true hA0) (W_if (decide_eq_true hAl) (W_some rfl)))
 rw [if_neg c3]
 refine W_else (by rw [decide_eq_true_eq]; exact c3) ?_
 by_cases c4 : x0.1 ≤ x2.2.2.2.2.1
 · rw [if_pos c4]
   exact W_if (decide_eq_true c4) (W_some rfl)
 · rw [if_neg c4]
   exact W_else (by rw [decide_eq_true_eq]; exact c4) (W_if (decide_eq_true cf.2.2.2.2.1.1) (W_if (decide_eq_true (show x2.2.2.2.2.1 < ((grpAt x1 x2).2.2.2.1.length : Int) by omega)) (W_some rfl)))
end spec_l6Group
abbrev spec_l6Group := doGroup
theorem setGroup_ok {s : Setup} {k : Keep} {i : Int} {g : Group} (h : KeepP s k) (hg : GroupOk g s.1 = true) : KeepP s (setGroup k i g) := by
 obtain ⟨⟨h0, h1, h2, h3, h4, h5, h6⟩, k1, k2, k3⟩ := h
 refine ⟨⟨h0, h1, ?_, h3, h4, h5, h6⟩, k1, fun x hx => ?_, k3⟩
 · show (k.2.2.1.modify _ _).length = 2
   rw [List.length_modify]; exact h2
 · rcases mem_modify hx with rfl | hx
   · exact hg
   · exact k2 x hx
theorem doGroup_ok {s : Setup} {k : Keep} {c : Cmd} (h : cmdP s k c) (hA : c.2.2.2.1 < 2) : KeepP s (doGroup s k c).1 ∧ AnswerOk (doGroup s k c).2 = true := by
 obtain ⟨hk, hc, hw⟩ := h
 have hk' := hk
 obtain ⟨⟨h0, h1, h2, h3, h4, h5, h6⟩, k1, k2, k3, k4, k5⟩ := hk'
 have cf := cmd_facts hc hw
 have hg : GroupOk (grpAt k c) s.1 = true := k2 _ (getD_mem (by omega) _)
 have gen : ∀ g : Group, GroupOk g s.1 = true → AnswerOk (ansN 0 g.1) = true := fun g hg => by
  have := (groupOk_iff.1 hg).1
  exact ans_ok (by omega) (by omega) (by omega) (by omega)
 unfold doGroup
 split
 · exact ⟨setGroup_ok hk (groupJoin_ok hg h5 h6), gen _ (groupJoin_ok hg h5 h6)⟩
 split
 · exact ⟨setGroup_ok hk (groupLeave_ok hg), gen _ (groupLeave_ok hg)⟩
 split
 · cases (GroupMark (grpAt k c) c.1 (grpAt k c).1 c.2.2.2.2.1 c.2.2.2.2.2.1).2
   · exact ⟨hk, ans_ok (by omega) (by omega) (by omega) (by omega)⟩
   · exact ⟨setGroup_ok hk (groupMark_ok hg cf.2.2.2.2.2.1.1 cf.2.2.2.2.2.1.2), ans_ok (by omega) (by omega) (by have := cf.2.2.2.2.2.1; omega) cf.2.2.2.2.2.1.2⟩
 split
 · exact ⟨hk, ans_ok (by omega) (by omega) (by omega) (by omega)⟩
 · rename_i hB
   have hgo := groupOk_iff.1 hg
   have := hgo.2.2.2.2 _ (getD_mem (show c.2.2.2.2.1.toNat < (grpAt k c).2.2.2.1.length by have := cf.2.2.2.2.1; have := hgo.1.2.1; omega) 0)
   exact ⟨hk, ans_ok (by omega) (by omega) (by omega) (by omega)⟩
def rowOf (k : Keep) (c : Cmd) : Row := k.1.getD c.2.2.2.1.toNat zd9
def setRow (k : Keep) (i : Int) (r : Row) : Keep := (k.1.modify i.toNat (fun _ => r), k.2)
def putRes (s : Setup) (k : Keep) (c : Cmd) : Row × (Int × Bool) := RowPut (rowOf k c) c.2.2.2.2.2.2.1 c.2.2.2.2.2.2.2.1 c.1 k.2.2.2.1
def mkOf (k : Keep) (c : Cmd) : Maker := MakerOf k.2.1 c.2.2.2.1 c.1
def doPut (s : Setup) (k : Keep) (c : Cmd) : Keep × Answer :=
 if (MakerAsk (mkOf k c) c.2.2.2.2.2.1 c.2.2.2.2.1).1 = 1 then (k, ansN 1 (MakerAsk (mkOf k c) c.2.2.2.2.2.1 c.2.2.2.2.1).2)
 else if (MakerAsk (mkOf k c) c.2.2.2.2.2.1 c.2.2.2.2.1).1 = 2 then (k, ansN 2 0)
 else if (MakerAsk (mkOf k c) c.2.2.2.2.2.1 c.2.2.2.2.1).1 = 3 then (k, ansN 3 0)
 else if (MakerAsk (mkOf k c) c.2.2.2.2.2.1 c.2.2.2.2.1).1 = 4 then (k, ansN 4 0)
 else cond (putRes s k c).2.2 ((k.1.modify c.2.2.2.1.toNat (fun _ => (putRes s k c).1), (MakerSet k.2.1 (MakerPut (mkOf k c) s.2.1 c.2.2.2.2.2.1 c.2.2.2.2.1 (putRes s k c).2.1), k.2.2)), ansN 0 (putRes s k c).2.1) (k, ansN 8 0)
theorem MakerOf_S {xs : List Maker} {row who : Int} (h : mksS xs = true) : small (MakerOf xs row who).2.2.2.2.1 = true := by
 unfold MakerOf
 cases hf : xs.find? (isMk row who) with
 | none => rfl
 | some m => exact small_iff.2 ((mksS_iff.1 h).2 m (List.mem_of_find?_eq_some hf))
theorem MakerPut_S {m : Maker} {w e q o : Int} (h : m.2.2.2.2.1.length ≤ 1000) : small (MakerPut m w e q o).2.2.2.2.1 = true := by
 rw [small_iff]
 unfold MakerPut
 split
 · have h1 : (lastN w ((if m.2.2.1 < e then [] else m.2.2.2.2.1) ++ [(q, (o, ()))])).length ≤ ((if m.2.2.1 < e then [] else m.2.2.2.2.1) ++ [(q, (o, ()))]).length := by
    unfold lastN; rw [List.length_drop]; omega
   have h2 : ((if m.2.2.1 < e then [] else m.2.2.2.2.1) ++ [(q, (o, ()))]).length ≤ 1001 := by
    rw [List.length_append]
    split
    · simp
    · simp; omega
   show (lastN _ _).length ≤ _
   omega
 · omega
namespace spec_l6Put
noncomputable def pre (s : Setup) (k : Keep) (c : Cmd) : Bool := B (cmdP s k c ∧ c.2.2.2.1 < s.1)
abbrev wf (x0 : Setup) (x1 : zt1) (x2 : Cmd) : Prop := wfA [(.val zk27 .f), (.val zk3 .o), (.val zk8 .f)] (x0, (x1, (x2, ())))
noncomputable def raw (x0 : Setup) (x1 : zt1) (x2 : Cmd) : Option (Unit × (zt1 × (Answer × Unit))) :=
 if (spec_MakerOf.pre x1.2.1 x2.2.2.2.1 x2.1) = true then
 letB (MakerOf x1.2.1 x2.2.2.2.1 x2.1) fun v1 =>
 if (spec_MakerAsk.pre v1 x2.2.2.2.2.2.1 x2.2.2.2.2.1) = true then
 letB (MakerAsk v1 x2.2.2.2.2.2.1 x2.2.2.2.2.1) fun v2 =>
 if (decide (v2.1 = (1 : Int))) = true then
 some ((), (x1, (((1 : Int), (v2.2, (([] : List UInt8), (([] : List UInt8), ())))), ())))
 else
 if (decide (v2.1 = (2 : Int))) = true then
 some ((), (x1, (((2 : Int), zd6), ())))
 else
 if (decide (v2.1 = (3 : Int))) = true then
 some ((), (x1, (((3 : Int), zd6), ())))
 else
 if (decide (v2.1 = (4 : Int))) = true then
 some ((), (x1, (((4 : Int), zd6), ())))
 else
 if (decide ((0 : Int) ≤ x2.2.2.2.1)) = true then
 if (decide (x2.2.2.2.1 < ((List.length x1.1 : Nat) : Int))) = true then
 if (spec_RowPut.pre (List.getD x1.1 (Int.toNat x2.2.2.2.1) zd9) x2.2.2.2.2.2.2.1 x2.2.2.2.2.2.2.2.1 x2.1 x1.2.2.2.1) = true then
 letB (RowPut (List.getD x1.1 (Int.toNat x2.2.2.2.1) zd9) x2.2.2.2.2.2.2.1 x2.2.2.2.2.2.2.2.1 x2.1 x1.2.2.2.1) fun v3 =>
 if (!v3.2.2) = true then
 some ((), (x1, (((8 : Int), zd6), ())))
 else
 if (decide ((0 : Int) ≤ x2.2.2.2.1)) = true then
 if (decide (x2.2.2.2.1 < ((List.length x1.1 : Nat) : Int))) = true then
 if (spec_MakerPut.pre v1 x0.2.1 x2.2.2.2.2.2.1 x2.2.2.2.2.1 v3.2.1) = true then
 letB (MakerPut v1 x0.2.1 x2.2.2.2.2.2.1 x2.2.2.2.2.1 v3.2.1) fun v4 =>
 if (spec_MakerSet.pre x1.2.1 v4) = true then
 letB (MakerSet x1.2.1 v4) fun v5 =>
 some ((), (((List.modify x1.1 (Int.toNat x2.2.2.2.1) (fun z => v3.1)), (v5, x1.2.2)), (((0 : Int), (v3.2.1, (([] : List UInt8), (([] : List UInt8), ())))), ())))
 else
 none
 else
 none
 else
 none
 else
 none
 else
 none
 else
 none
 else
 none
 else
 none
 else
 none
theorem eq (x0 : Setup) (x1 : Keep) (x2 : Cmd) (_ : wf x0 x1 x2) (hp : pre x0 x1 x2 = true) : raw x0 x1 x2 = some ((), ((doPut x0 x1 x2).1, ((doPut x0 x1 x2).2, ()))) := by
 obtain ⟨⟨hk, hc, hw⟩, hA⟩ := B_iff.1 hp
 obtain ⟨⟨h0, h1, h2, h3, h4, h5, h6⟩, k1, k2, k3, k4, k5⟩ := hk
 have hs := setup_facts h0
 have cf := cmd_facts hc hw
 have hA0 := cf.2.2.2.1.1
 have hAl : x2.2.2.2.1 < (x1.1.length : Int) := by omega
 have hr : RowOk (rowOf x1 x2) = true := k1 _ (getD_mem (by omega) _)
 have hms := mks_S (by omega) k5
 have hmk := makerOf_P (row := x2.2.2.2.1) (who := x2.1) (w := x0.2.1) (fun m hm => (k5.1 m hm).1) ⟨hA0, by omega⟩ ⟨hw, cf.1⟩ (by omega)
 refine W_eq2 ?_
 unfold raw
 refine W_if (show spec_MakerOf.pre _ _ _ = true from hms) (W_let (W_if (show spec_MakerAsk.pre _ _ _ = true from MakerOf_S hms) (W_let ?_)))
 show Wp (if decide ((MakerAsk (mkOf x1 x2) x2.2.2.2.2.2.1 x2.2.2.2.2.1).1 = 1) = true then some ((), (x1, (ansN 1 (MakerAsk (mkOf x1 x2) x2.2.2.2.2.2.1 x2.2.2.2.2.1).2, ()))) else _) (fun r => (r.2.1, r.2.2.1) = doPut x0 x1 x2)
 unfold doPut
 refine W_ite (fun c1 => ?_) fun c1 => ?_
 · rw [decide_eq_true_eq] at c1; rw [if_pos c1]; exact W_some rfl
 rw [decide_eq_true_eq] at c1; rw [if_neg c1]
 refine W_ite (fun c2 => ?_) fun c2 => ?_
 · rw [decide_eq_true_eq] at c2
   rw [if_pos (show (MakerAsk (mkOf x1 x2) x2.2.2.2.2.2.1 x2.2.2.2.2.1).1 = 2 from c2)]; exact W_some rfl
 rw [decide_eq_true_eq] at c2; rw [if_neg (show ¬ (MakerAsk (mkOf x1 x2) x2.2.2.2.2.2.1 x2.2.2.2.2.1).1 = 2 from c2)]
 refine W_ite (fun c3 => ?_) fun c3 => ?_
 · rw [decide_eq_true_eq] at c3
   rw [if_pos (show (MakerAsk (mkOf x1 x2) x2.2.2.2.2.2.1 x2.2.2.2.2.1).1 = 3 from c3)]; exact W_some rfl
 rw [decide_eq_true_eq] at c3; rw [if_neg (show ¬ (MakerAsk (mkOf x1 x2) x2.2.2.2.2.2.1 x2.2.2.2.2.1).1 = 3 from c3)]
 refine W_ite (fun c4 => ?_) fun c4 => ?_
 · rw [decide_eq_true_eq] at c4
   rw [if_pos (show (MakerAsk (mkOf x1 x2) x2.2.2.2.2.2.1 x2.2.2.2.2.1).1 = 4 from c4)]; exact W_some rfl
 rw [decide_eq_true_eq] at c4; rw [if_neg (show ¬ (MakerAsk (mkOf x1 x2) x2.2.2.2.2.2.1 x2.2.2.2.2.1).1 = 4 from c4)]
 refine W_if (decide_eq_true hA0) (W_if (decide_eq_true hAl) (W_if (show spec_RowPut.pre (rowOf x1 x2) _ _ _ _ = true from (row_S hr).1) (W_let ?_)))
 show Wp (if (!(putRes x0 x1 x2).2.2) = true then _ else _) _
 cases hb : (putRes x0 x1 x2).2.2
 · exact W_if rfl (W_some rfl)
 refine W_else (by decide) (W_if (decide_eq_true hA0) (W_if (decide_eq_true hAl) (W_if (show spec_MakerPut.pre (mkOf x1 x2) _ _ _ _ = true from MakerOf_S hms) (W_let (W_if ?_ (W_let (W_some rfl)))))))
 show (mksS x1.2.1 && small (MakerPut (mkOf x1 x2) x0.2.1 x2.2.2.2.2.2.1 x2.2.2.2.2.1 (putRes x0 x1 x2).2.1).2.2.2.2.1) = true
 rw [hms, MakerPut_S]; rfl
 have := hmk.1.1.2.2.2.2.2.2.2.2.1
 show (MakerOf _ _ _).2.2.2.2.1.length ≤ 1000
 omega
end spec_l6Put
abbrev spec_l6Put := doPut
theorem mks_other {s : Setup} {rows rows' : List Row} {ms : List Maker} (h : mksP s rows ms) (hr : ∀ j, (rows.getD j zd9).2.1 ≤ (rows'.getD j zd9).2.1) : mksP s rows' ms :=
 ⟨fun m hm => ⟨(h.1 m hm).1, (h.1 m hm).2.1, fun x hx => Int.lt_of_lt_of_le ((h.1 m hm).2.2 x hx) (hr _)⟩, h.2⟩
theorem setRow_ok {s : Setup} {k : Keep} {i : Int} {r : Row} (h : KeepP s k) (hi : 0 ≤ i) (hl : i < s.1) (hr : RowOk r = true) (hn : (k.1.getD i.toNat zd9).2.1 ≤ r.2.1) : KeepP s (setRow k i r) := by
 obtain ⟨⟨h0, h1, h2, h3, h4, h5, h6⟩, k1, k2, k3, k4, k5⟩ := h
 refine ⟨⟨h0, by show ((k.1.modify _ _).length : Int) = s.1; rw [List.length_modify]; exact h1, h2, h3, h4, h5, h6⟩, fun x hx => ?_, k2, k3, k4, mks_other k5 fun j => ?_⟩
 · rcases mem_modify hx with rfl | hx
   · exact hr
   · exact k1 x hx
 · show _ ≤ ((k.1.modify i.toNat (fun _ => r)).getD j zd9).2.1
   by_cases e : i.toNat = j
   · subst e
     rw [getD_modify (by omega)]; exact hn
   · rw [getD_modify_ne e]; exact Int.le_refl _
theorem rowPut_facts {x : Row} {key text : List UInt8} {who t : Int} (hx : RowOk x = true) (h : (RowPut x key text who t).2.2 = true) : (RowPut x key text who t).2.1 = x.2.1 ∧ RowOk (RowPut x key text who t).1 = true ∧ (RowPut x key text who t).1.2.1 = x.2.1 + 1 ∧ 0 ≤ x.2.1 ∧ x.2.1 < 100000 := by
 unfold RowPut at h ⊢
 split at h
 · rename_i hc
   rw [if_pos hc]
   rw [Bool.and_eq_true] at hc
   have h1 := (rowOk_iff.1 hx).1
   have h2 := (rowOk_iff.1 hc.2).1
   have e : (newRow x key text who t).2.1 = x.2.1 + 1 := w64 (n := x.2.1 + 1) (by omega) (by omega)
   rw [e] at h2
   exact ⟨rfl, hc.2, e, by omega, by omega⟩
 · cases h
theorem ask_ok {m : Maker} {w e q : Int} (h : makerP m w) (h1 : (MakerAsk m e q).1 = 1) : 0 ≤ (MakerAsk m e q).2 ∧ (MakerAsk m e q).2 ≤ 100000 := by
 unfold MakerAsk at h1 ⊢
 repeat' split
 all_goals first
  | exact ⟨by decide, by decide⟩
  | skip
 rename_i x hx
 exact h.2.2.1 x (List.mem_of_find?_eq_some hx)
theorem doPut_ok {s : Setup} {k : Keep} {c : Cmd} (h : cmdP s k c) (hA : c.2.2.2.1 < s.1) : KeepP s (doPut s k c).1 ∧ AnswerOk (doPut s k c).2 = true := by
 obtain ⟨hk, hc, hw⟩ := h
 have hk' := hk
 obtain ⟨⟨h0, h1, h2, h3, h4, h5, h6⟩, k1, k2, k3, k4, k5⟩ := hk'
 have hs := setup_facts h0
 have cf := cmd_facts hc hw
 have hA0 := cf.2.2.2.1.1
 have hn : c.2.2.2.1.toNat < k.1.length := by omega
 have hr : RowOk (rowOf k c) = true := k1 _ (getD_mem hn _)
 have hmk := makerOf_P (row := c.2.2.2.1) (who := c.1) (w := s.2.1) (fun m hm => (k5.1 m hm).1) ⟨hA0, by omega⟩ ⟨hw, cf.1⟩ (by omega)
 have a0 : ∀ {x : Int}, 0 ≤ x → x ≤ 9 → AnswerOk (ansN x 0) = true := fun h1 h2 => ans_ok h1 h2 (by omega) (by omega)
 unfold doPut
 split
 · rename_i c1
   have := ask_ok hmk.1 c1
   exact ⟨hk, ans_ok (by omega) (by omega) (by unfold mkOf; omega) this.2⟩
 split
 · exact ⟨hk, a0 (by omega) (by omega)⟩
 split
 · exact ⟨hk, a0 (by omega) (by omega)⟩
 split
 · exact ⟨hk, a0 (by omega) (by omega)⟩
 rename_i c1 c2 c3 c4
 have hask : (MakerAsk (mkOf k c) c.2.2.2.2.2.1 c.2.2.2.2.1).1 = 0 := by
  unfold MakerAsk at c1 c2 c3 c4 ⊢
  repeat' split
  all_goals first
   | rfl
   | (exfalso; simp_all)
 cases hb : (putRes s k c).2.2
 · exact ⟨hk, a0 (by omega) (by omega)⟩
 · have hf := rowPut_facts (who := c.1) (t := k.2.2.2.1) (key := c.2.2.2.2.2.2.1) (text := c.2.2.2.2.2.2.2.1) hr hb
   have hf1 : (putRes s k c).2.1 = (rowOf k c).2.1 := hf.1
   have hf2 : RowOk (putRes s k c).1 = true := hf.2.1
   have hf3 : (putRes s k c).1.2.1 = (rowOf k c).2.1 + 1 := hf.2.2.1
   have hlt : ∀ x ∈ (mkOf k c).2.2.2.2.1, x.2.1 < (rowOf k c).2.1 := by
    intro x hx
    rcases hmk.2.2.2 with h | h
    · have := (k5.1 _ h).2.2 x hx
      rw [hmk.2.1] at this
      exact this
    · rw [show (mkOf k c).2.2.2.2.1 = [] from h] at hx; cases hx
   have hp := makerPut_P (m := mkOf k c) (w := s.2.1) (epoch := c.2.2.2.2.2.1) (seq := c.2.2.2.2.1) (off := (rowOf k c).2.1) hmk.1 (by omega) cf.2.2.2.2.2.1.2 cf.2.2.2.2.1 ⟨hf.2.2.2.1, by have := hf.2.2.2.2; omega⟩ hlt hask
   simp only [cond_true]
   rw [hf1]
   refine ⟨?_, ans_ok (by omega) (by omega) (by have := hf.2.2.2.1; unfold rowOf; unfold rowOf at this; omega) (by have := hf.2.2.2.2; unfold rowOf; unfold rowOf at this; omega)⟩
   have hset := setMk_ok (m := MakerPut (mkOf k c) s.2.1 c.2.2.2.2.2.1 c.2.2.2.2.1 (rowOf k c).2.1) k.2.1 k5.2
   have hk2 := setRow_ok (i := c.2.2.2.1) (r := (putRes s k c).1) hk hA0 hA hf2 (by show (rowOf k c).2.1 ≤ _; omega)
   obtain ⟨g0, g1, g2, g3, g4, g5⟩ := hk2
   refine ⟨g0, g1, g2, g3, g4, fun m hm => ?_, hset.1⟩
   rcases hset.2 m hm with rfl | hm
   · refine ⟨hp.1, by rw [hp.2.1]; show (MakerOf _ _ _).1 < s.1; rw [hmk.2.1]; exact hA, fun x hx => ?_⟩
     have h1 := hp.2.2.2 x hx
     have e : (MakerPut (mkOf k c) s.2.1 c.2.2.2.2.2.1 c.2.2.2.2.1 (rowOf k c).2.1).1 = c.2.2.2.1 := by rw [hp.2.1]; exact hmk.2.1
     rw [e]
     show x.2.1 < ((k.1.modify c.2.2.2.1.toNat (fun _ => (putRes s k c).1)).getD c.2.2.2.1.toNat zd9).2.1
     rw [getD_modify hn, hf3]
     omega
   · exact g5.1 m hm
def doEpoch (k : Keep) (c : Cmd) : Keep × Answer :=
 if c.2.2.2.2.1 ≤ (mkOf k c).2.2.1 then (k, ansN 4 (mkOf k c).2.2.1) else ((k.1, (MakerSet k.2.1 (c.2.2.2.1, (c.1, (c.2.2.2.2.1, ((-1 : Int), (([] : List Mark), ()))))), k.2.2)), ansN 0 c.2.2.2.2.1)
namespace spec_l6Epoch
def pre (k : Keep) (_ : Cmd) : Bool := mksS k.2.1
abbrev wf (x0 : zt1) (x1 : Cmd) : Prop := wfA [(.val zk3 .o), (.val zk8 .f)] (x0, (x1, ()))
noncomputable def raw (x0 : zt1) (x1 : Cmd) : Option (Unit × (zt1 × (Answer × Unit))) :=
 if (spec_MakerOf.pre x0.2.1 x1.2.2.2.1 x1.1) = true then
 letB (MakerOf x0.2.1 x1.2.2.2.1 x1.1) fun v1 =>
 if (decide (x1.2.2.2.2.1 ≤ v1.2.2.1)) = true then
 some ((), (x0, (((4 : Int), (v1.2.2.1, (([] : List UInt8), (([] : List UInt8), ())))), ())))
 else
 if (spec_MakerSet.pre x0.2.1 (x1.2.2.2.1, (x1.1, (x1.2.2.2.2.1, ((-1 : Int), (([] : List Mark), ())))))) = true then
 letB (MakerSet x0.2.1 (x1.2.2.2.1, (x1.1, (x1.2.2.2.2.1, ((-1 : Int), (([] : List Mark), ())))))) fun v2 =>
 some ((), ((x0.1, (v2, x0.2.2)), (((0 : Int), (x1.2.2.2.2.1, (([] : List UInt8), (([] : List UInt8), ())))), ())))
 else
 none
 else
 none
theorem eq (x0 : Keep) (x1 : Cmd) (_ : wf x0 x1) (hp : pre x0 x1 = true) : raw x0 x1 = some ((), ((doEpoch x0 x1).1, ((doEpoch x0 x1).2, ()))) := by
 have hp : mksS x0.2.1 = true := hp
 refine W_eq2 ?_
 unfold raw
 refine W_if (show spec_MakerOf.pre _ _ _ = true from hp) (W_let ?_)
 show Wp (if decide (x1.2.2.2.2.1 ≤ (mkOf x0 x1).2.2.1) = true then some ((), (x0, (ansN 4 (mkOf x0 x1).2.2.1, ()))) else _) (fun r => (r.2.1, r.2.2.1) = doEpoch x0 x1)
 unfold doEpoch
 refine W_ite (fun c1 => ?_) fun c1 => ?_
 · rw [decide_eq_true_eq] at c1; rw [if_pos c1]; exact W_some rfl
 · rw [decide_eq_true_eq] at c1; rw [if_neg c1]
   exact W_if (show (mksS x0.2.1 && small ([] : List Mark)) = true by rw [hp]; rfl) (W_let (W_some rfl))
end spec_l6Epoch
abbrev spec_l6Epoch := doEpoch
theorem doEpoch_ok {s : Setup} {k : Keep} {c : Cmd} (h : cmdP s k c) (hA : c.2.2.2.1 < s.1) : KeepP s (doEpoch k c).1 ∧ AnswerOk (doEpoch k c).2 = true := by
 obtain ⟨hk, hc, hw⟩ := h
 have hk' := hk
 obtain ⟨⟨h0, h1, h2, h3, h4, h5, h6⟩, k1, k2, k3, k4, k5⟩ := hk'
 have hs := setup_facts h0
 have cf := cmd_facts hc hw
 have hA0 := cf.2.2.2.1.1
 have hmk := makerOf_P (row := c.2.2.2.1) (who := c.1) (w := s.2.1) (fun m hm => (k5.1 m hm).1) ⟨hA0, by omega⟩ ⟨hw, cf.1⟩ (by omega)
 have he := hmk.1.1
 unfold doEpoch
 split
 · obtain ⟨_, _, _, _, e1, e2, _⟩ := he
   exact ⟨hk, ans_ok (by omega) (by omega) (by show -1 ≤ (MakerOf _ _ _).2.2.1; omega) e2⟩
 · refine ⟨?_, ans_ok (by omega) (by omega) (by have := cf.2.2.2.2.1; show -1 ≤ c.2.2.2.2.1; omega) cf.2.2.2.2.1.2⟩
   have hset := setMk_ok (m := (c.2.2.2.1, (c.1, (c.2.2.2.2.1, ((-1 : Int), (([] : List Mark), ())))))) k.2.1 k5.2
   refine ⟨⟨h0, h1, h2, h3, h4, h5, h6⟩, k1, k2, k3, k4, fun m hm => ?_, hset.1⟩
   rcases hset.2 m hm with rfl | hm
   · refine ⟨⟨⟨hA0, by show c.2.2.2.1 ≤ 3; omega, hw, cf.1, cf.2.2.2.2.1.1, cf.2.2.2.2.1.2, Int.le_refl _, by show (-1 : Int) ≤ 100000; omega, by show (0 : Int) ≤ s.2.1; omega, by show (0 : Int) ≤ -1 + 1; omega, fun h => absurd h (by show ¬ (0 : Int) ≤ -1; omega)⟩, fun j hj => absurd hj (Nat.not_lt_zero _), fun x hx => absurd hx List.not_mem_nil, List.Pairwise.nil⟩, hA, fun x hx => absurd hx List.not_mem_nil⟩
   · exact k5.1 m hm
def doRow (s : Setup) (k : Keep) (c : Cmd) : Keep × Answer :=
 if c.2.2.1 = 1 then doPut s k c
 else if c.2.2.1 = 3 then doEpoch k c
 else if c.2.2.1 = 2 then (if (RowGet (rowOf k c) c.2.2.2.2.1).2 = 1 then (k, ansN 6 0) else if (RowGet (rowOf k c) c.2.2.2.2.1).2 = 2 then (k, ansN 7 0)
  else (k, (0, ((RowGet (rowOf k c) c.2.2.2.2.1).1.1, ((RowGet (rowOf k c) c.2.2.2.2.1).1.2.1, ((RowGet (rowOf k c) c.2.2.2.2.1).1.2.2.1, ()))))))
 else if c.2.2.1 = 9 then (setRow k c.2.2.2.1 (RowTrim (rowOf k c) s.2.2.1 s.2.2.2.1), ansN 0 (RowTrim (rowOf k c) s.2.2.1 s.2.2.2.1).1)
 else (setRow k c.2.2.2.1 (RowPack (rowOf k c) s.2.2.1), ansN 0 (RowPack (rowOf k c) s.2.2.1).1)
namespace spec_l6Row
noncomputable def pre (s : Setup) (k : Keep) (c : Cmd) : Bool := B (cmdP s k c ∧ c.2.2.2.1 < s.1)
abbrev wf (x0 : Setup) (x1 : zt1) (x2 : Cmd) : Prop := wfA [(.val zk27 .f), (.val zk3 .o), (.val zk8 .f)] (x0, (x1, (x2, ())))
noncomputable def raw (x0 : Setup) (x1 : zt1) (x2 : Cmd) : Option (Unit × (zt1 × (Answer × Unit))) :=
 if (decide (x2.2.2.1 = (1 : Int))) = true then
 if (spec_l6Put.pre x0 x1 x2) = true then
 letB (doPut x0 x1 x2) fun v1 =>
 some ((), (v1.1, (v1.2, ())))
 else
 none
 else
 if (decide (x2.2.2.1 = (3 : Int))) = true then
 if (spec_l6Epoch.pre x1 x2) = true then
 letB (doEpoch x1 x2) fun v2 =>
 some ((), (v2.1, (v2.2, ())))
 else
 none
 else
 if (decide (x2.2.2.1 = (2 : Int))) = true then
 if (decide ((0 : Int) ≤ x2.2.2.2.1)) = true then
 if (decide (x2.2.2.2.1 < ((List.length x1.1 : Nat) : Int))) = true then
 if (spec_RowGet.pre (List.getD x1.1 (Int.toNat x2.2.2.2.1) zd9) x2.2.2.2.2.1) = true then
 letB (RowGet (List.getD x1.1 (Int.toNat x2.2.2.2.1) zd9) x2.2.2.2.2.1) fun v3 =>
 if (decide (v3.2 = (1 : Int))) = true then
 some ((), (x1, (((6 : Int), zd6), ())))
 else
 if (decide (v3.2 = (2 : Int))) = true then
 some ((), (x1, (((7 : Int), zd6), ())))
 else
 some ((), (x1, (((0 : Int), (v3.1.1, (v3.1.2.1, (v3.1.2.2.1, ())))), ())))
 else
 none
 else
 none
 else
 none
 else
 if (decide (x2.2.2.1 = (9 : Int))) = true then
 if (decide ((0 : Int) ≤ x2.2.2.2.1)) = true then
 if (decide (x2.2.2.2.1 < ((List.length x1.1 : Nat) : Int))) = true then
 if (spec_RowTrim.pre (List.getD x1.1 (Int.toNat x2.2.2.2.1) zd9) x0.2.2.1 x0.2.2.2.1) = true then
 if (decide ((0 : Int) ≤ x2.2.2.2.1)) = true then
 if (decide (x2.2.2.2.1 < ((List.length x1.1 : Nat) : Int))) = true then
 if (decide ((0 : Int) ≤ x2.2.2.2.1)) = true then
 if (decide (x2.2.2.2.1 < ((List.length (List.modify x1.1 (Int.toNat x2.2.2.2.1) (fun z => (RowTrim (List.getD x1.1 (Int.toNat x2.2.2.2.1) zd9) x0.2.2.1 x0.2.2.2.1))) : Nat) : Int))) = true then
 some ((), (((List.modify x1.1 (Int.toNat x2.2.2.2.1) (fun z => (RowTrim (List.getD x1.1 (Int.toNat x2.2.2.2.1) zd9) x0.2.2.1 x0.2.2.2.1))), x1.2), (((0 : Int), ((List.getD (List.modify x1.1 (Int.toNat x2.2.2.2.1) (fun z => (RowTrim (List.getD x1.1 (Int.toNat x2.2.2.2.1) zd9) x0.2.2.1 x0.2.2.2.1))) (Int.toNat x2.2.2.2.1) zd9).1, (([] : List UInt8), (([] : List UInt8), ())))), ())))
 else
 none
 else
 none
 else
 none
 else
 none
 else
 none
 else
 none
 else
 none
 else
 if (decide ((0 : Int) ≤ x2.2.2.2.1)) = true then
 if (decide (x2.2.2.2.1 < ((List.length x1.1 : Nat) : Int))) = true then
 if (spec_RowPack.pre (List.getD x1.1 (Int.toNat x2.2.2.2.1) zd9) x0.2.2.1) = true then
 if (decide ((0 : Int) ≤ x2.2.2.2.1)) = true then
 if (decide (x2.2.2.2.1 < ((List.length x1.1 : Nat) : Int))) = true then
 if (decide ((0 : Int) ≤ x2.2.2.2.1)) = true then
 if (decide (x2.2.2.2.1 < ((List.length (List.modify x1.1 (Int.toNat x2.2.2.2.1) (fun z => (RowPack (List.getD x1.1 (Int.toNat x2.2.2.2.1) zd9) x0.2.2.1))) : Nat) : Int))) = true then
 some ((), (((List.modify x1.1 (Int.toNat x2.2.2.2.1) (fun z => (RowPack (List.getD x1.1 (Int.toNat x2.2.2.2.1) zd9) x0.2.2.1))), x1.2), (((0 : Int), ((List.getD (List.modify x1.1 (Int.toNat x2.2.2.2.1) (fun z => (RowPack (List.getD x1.1 (Int.toNat x2.2.2.2.1) zd9) x0.2.2.1))) (Int.toNat x2.2.2.2.1) zd9).1, (([] : List UInt8), (([] : List UInt8), ())))), ())))
 else
 none
 else
 none
 else
 none
 else
 none
 else
 none
 else
 none
 else
 none
theorem eq (x0 : Setup) (x1 : Keep) (x2 : Cmd) (_ : wf x0 x1 x2) (hp : pre x0 x1 x2 = true) : raw x0 x1 x2 = some ((), ((doRow x0 x1 x2).1, ((doRow x0 x1 x2).2, ()))) := by
 obtain ⟨⟨hk, hc, hw⟩, hA⟩ := B_iff.1 hp
 obtain ⟨⟨h0, h1, h2, h3, h4, h5, h6⟩, k1, k2, k3, k4, k5⟩ := hk
 have hs := setup_facts h0
 have cf := cmd_facts hc hw
 have hA0 := cf.2.2.2.1.1
 have hAl : x2.2.2.2.1 < (x1.1.length : Int) := by omega
 have hn : x2.2.2.2.1.toNat < x1.1.length := by omega
 have hr : RowOk (rowOf x1 x2) = true := k1 _ (getD_mem hn _)
 have hrs := (row_S hr).2
 have ml : ∀ g : Row, decide (x2.2.2.2.1 < (((x1.1.modify x2.2.2.2.1.toNat (fun _ => g)).length : Nat) : Int)) = true := fun g => by rw [List.length_modify]; exact decide_eq_true hAl
 refine W_eq2 ?_
 unfold raw doRow
 refine W_ite (fun c1 => ?_) fun c1 => ?_
 · rw [decide_eq_true_eq] at c1; rw [if_pos c1]
   exact W_if (show spec_l6Put.pre x0 x1 x2 = true from hp) (W_let (W_some rfl))
 rw [decide_eq_true_eq] at c1; rw [if_neg c1]
 refine W_ite (fun c2 => ?_) fun c2 => ?_
 · rw [decide_eq_true_eq] at c2; rw [if_pos c2]
   exact W_if (show spec_l6Epoch.pre x1 x2 = true from mks_S (by omega) k5) (W_let (W_some rfl))
 rw [decide_eq_true_eq] at c2; rw [if_neg c2]
 refine W_ite (fun c3 => ?_) fun c3 => ?_
 · rw [decide_eq_true_eq] at c3; rw [if_pos c3]
   refine W_if (decide_eq_true hA0) (W_if (decide_eq_true hAl) (W_if (show spec_RowGet.pre (rowOf x1 x2) _ = true from hrs) (W_let (W_ite (fun d1 => ?_) fun d1 => ?_))))
   · rw [decide_eq_true_eq] at d1; rw [if_pos (show (RowGet (rowOf x1 x2) x2.2.2.2.2.1).2 = 1 from d1)]; exact W_some rfl
   rw [decide_eq_true_eq] at d1; rw [if_neg (show ¬ (RowGet (rowOf x1 x2) x2.2.2.2.2.1).2 = 1 from d1)]
   refine W_ite (fun d2 => ?_) fun d2 => ?_
   · rw [decide_eq_true_eq] at d2; rw [if_pos (show (RowGet (rowOf x1 x2) x2.2.2.2.2.1).2 = 2 from d2)]; exact W_some rfl
   rw [decide_eq_true_eq] at d2; rw [if_neg (show ¬ (RowGet (rowOf x1 x2) x2.2.2.2.2.1).2 = 2 from d2)]
   exact W_some rfl
 rw [decide_eq_true_eq] at c3; rw [if_neg c3]
 refine W_ite (fun c4 => ?_) fun c4 => ?_
 · rw [decide_eq_true_eq] at c4; rw [if_pos c4]
   refine W_if (decide_eq_true hA0) (W_if (decide_eq_true hAl) (W_if (show spec_RowTrim.pre (rowOf x1 x2) _ _ = true from hrs) (W_if (decide_eq_true hA0) (W_if (decide_eq_true hAl) (W_if (decide_eq_true hA0) (W_if (ml _) (W_some ?_)))))))
   show (setRow x1 x2.2.2.2.1 (RowTrim (rowOf x1 x2) x0.2.2.1 x0.2.2.2.1), ansN 0 ((x1.1.modify x2.2.2.2.1.toNat (fun _ => RowTrim (rowOf x1 x2) x0.2.2.1 x0.2.2.2.1)).getD x2.2.2.2.1.toNat zd9).1) = _
   rw [getD_modify hn]
 · rw [decide_eq_true_eq] at c4; rw [if_neg c4]
   refine W_if (decide_eq_true hA0) (W_if (decide_eq_true hAl) (W_if (show spec_RowPack.pre (rowOf x1 x2) _ = true from hrs) (W_if (decide_eq_true hA0) (W_if (decide_eq_true hAl) (W_if (decide_eq_true hA0) (W_if (ml _) (W_some ?_)))))))
   show (setRow x1 x2.2.2.2.1 (RowPack (rowOf x1 x2) x0.2.2.1), ansN 0 ((x1.1.modify x2.2.2.2.1.toNat (fun _ => RowPack (rowOf x1 x2) x0.2.2.1)).getD x2.2.2.2.1.toNat zd9).1) = _
   rw [getD_modify hn]
end spec_l6Row
abbrev spec_l6Row := doRow
theorem rowGet_item {x : Row} {off : Int} (h1 : ¬ (RowGet x off).2 = 1) (h2 : ¬ (RowGet x off).2 = 2) : (RowGet x off).1 ∈ x.2.2.1 := by
 unfold RowGet at h1 h2 ⊢
 split at h1
 · exact absurd rfl h1
 · rename_i hc
   rw [if_neg hc] at h2 ⊢
   cases hf : x.2.2.1.find? (fun it => decide (off ≤ it.1)) with
   | none => rw [hf] at h2; exact absurd rfl h2
   | some it => exact List.mem_of_find?_eq_some hf
theorem doRow_ok {s : Setup} {k : Keep} {c : Cmd} (h : cmdP s k c) (hA : c.2.2.2.1 < s.1) : KeepP s (doRow s k c).1 ∧ AnswerOk (doRow s k c).2 = true := by
 have h' := h
 obtain ⟨hk, hc, hw⟩ := h'
 have hk' := hk
 obtain ⟨⟨h0, h1, h2, h3, h4, h5, h6⟩, k1, k2, k3, k4, k5⟩ := hk'
 have hs := setup_facts h0
 have cf := cmd_facts hc hw
 have hA0 := cf.2.2.2.1.1
 have hr : RowOk (rowOf k c) = true := k1 _ (getD_mem (by omega) _)
 have hr' := rowOk_iff.1 hr
 have st : ∀ r : Row, RowOk r = true → AnswerOk (ansN 0 r.1) = true := fun r hr => by
  have := (rowOk_iff.1 hr).1
  exact ans_ok (by omega) (by omega) (by omega) (by omega)
 unfold doRow
 split
 · exact doPut_ok h hA
 split
 · exact doEpoch_ok h hA
 split
 · split
   · exact ⟨hk, ans_ok (by omega) (by omega) (by omega) (by omega)⟩
   split
   · exact ⟨hk, ans_ok (by omega) (by omega) (by omega) (by omega)⟩
   · rename_i d1 d2
     have hit := hr'.2.1 _ (rowGet_item d1 d2)
     have hi := hit.2.2
     simp only [itOk, Bool.and_eq_true] at hi
     refine ⟨hk, ?_⟩
     simp only [AnswerOk, impl_within, Bool.and_eq_true, decide_eq_true_eq]
     exact ⟨⟨by omega, by omega⟩, ⟨by have := hr'.1; omega, by have := hr'.1; omega⟩, hi.1, hi.2.1⟩
 split
 · have ht := rowTrim_ok (keep := s.2.2.2.1) hr hs.2.2.2.2.2.1
   exact ⟨setRow_ok hk hA0 hA ht.1 (by show (rowOf k c).2.1 ≤ _; rw [ht.2]; exact Int.le_refl _), st _ ht.1⟩
 · have ht := rowPack_ok (len := s.2.2.1) hr
   exact ⟨setRow_ok hk hA0 hA ht.1 (by show (rowOf k c).2.1 ≤ _; rw [ht.2]; exact Int.le_refl _), st _ ht.1⟩
def minI (a b : Int) : Int := if a < b then a else b
namespace spec_l1Min
abbrev wf (x0 : Int) (x1 : Int) : Prop := wfA [(.val (.int .i64) .f), (.val (.int .i64) .f)] (x0, (x1, ()))
noncomputable def raw (x0 : Int) (x1 : Int) : Option (Unit × (Int × Unit)) :=
 if (decide (x0 < x1)) = true then
 some ((), (x0, ()))
 else
 some ((), (x1, ()))
theorem eq (x0 x1 : Int) (_ : wf x0 x1) : raw x0 x1 = some ((), (minI x0 x1, ())) := by
 unfold raw minI
 by_cases h : x0 < x1
 · rw [if_pos (decide_eq_true h), if_pos h]
 · rw [if_neg (by rw [decide_eq_true_eq]; exact h), if_neg h]
end spec_l1Min
abbrev spec_l1Min := minI
def tickT (k : Keep) (c : Cmd) : Int := minI 100000 (k.2.2.2.1 + c.2.2.2.1)
def doNew (s : Setup) (k : Keep) (c : Cmd) : Keep × Answer :=
 if c.2.2.1 = 8 then ((k.1, (k.2.1, (k.2.2.1.map (fun g => GroupTick g (tickT k c)), (tickT k c, k.2.2.2.2)))), ansN 0 (tickT k c))
 else if impl_within c.2.2.1 4 7 = true then (if 2 ≤ c.2.2.2.1 then (k, ansN 9 0) else doGroup s k c)
 else if s.1 ≤ c.2.2.2.1 then (k, ansN 5 0) else doRow s k c
theorem tickT_ok {s : Setup} {k : Keep} {c : Cmd} (h : cmdP s k c) : 0 ≤ tickT k c ∧ tickT k c ≤ 100000 := by
 obtain ⟨⟨⟨h0, h1, h2, h3, h4, h5, h6⟩, _⟩, hc, hw⟩ := h
 have := (cmd_facts hc hw).2.2.2.1
 unfold tickT minI
 split <;> omega
theorem tickP_of {g : Group} {rows t : Int} (h : GroupOk g rows = true) (hr : rows ≤ 4) (h0 : 0 ≤ t) (h1 : t ≤ 100000) : tickP g t = true := by
 have hg := groupOk_iff.1 h
 exact tickP_iff.2 ⟨(groupOk_S h hr).1, hg.1.1, h0, h1, hg.2.2.2.1⟩
namespace spec_l6New
abbrev S4 : Type := (Int × zt16)
abbrev O4 : Type := zt16
def pre4 : S4 → Bool := fun (x1, x2, _, _, _, x6, _) => decide (0 ≤ x1) && (decide (x1 ≤ (x6.length : Int)) && (decide (x6.length ≤ 1000) && (x6.drop x1.toNat).all fun g => tickP g x2))
def mu4 : S4 → Nat := fun (x1, _, _, _, _, x6, _) => x6.length - x1.toNat
def fn4 : S4 → O4 := fun (x1, x2, x3, x4, x5, x6, x7) => (x2, x3, x4, x5, x6.take x1.toNat ++ (x6.drop x1.toNat).map (fun g => GroupTick g x2), x7)
noncomputable def raw4 (x1 : Int) (x2 : Int) (x3 : Unit) (x4 : (List Row)) (x5 : (List Maker)) (x6 : (List Group)) (x7 : (List Int)) (x8 : (List Answer)) (x9 : Int) (x10 : Unit) (x11 : (List Row)) (x12 : (List Maker)) (x13 : (List Group)) (x14 : (List Int)) (x15 : (List Answer)) (x16 : Answer) : Option ((Int × zt16) ⊕ zt16) :=
 if (decide (x1 < ((List.length x6 : Nat) : Int))) = true then
 if (decide ((0 : Int) ≤ x1)) = true then
 if (decide (x1 < ((List.length x6 : Nat) : Int))) = true then
 if (spec_GroupTick.pre (List.getD x6 (Int.toNat x1) zd7) x2) = true then
 if (decide ((0 : Int) ≤ x1)) = true then
 if (decide (x1 < ((List.length x6 : Nat) : Int))) = true then
 some (.inl ((IntKind.wrap .i64 (x1 + (1 : Int))), (x2, (x3, (x4, (x5, ((List.modify x6 (Int.toNat x1) (fun z => (GroupTick (List.getD x6 (Int.toNat x1) zd7) x2))), (x7, (x8, (x9, (x10, (x11, (x12, (x13, (x14, (x15, (x16, ())))))))))))))))))
 else
 none
 else
 none
 else
 none
 else
 none
 else
 none
 else
 some (.inr (x2, (x3, (x4, (x5, (x6, (x7, (x8, (x9, (x10, (x11, (x12, (x13, (x14, (x15, (x16, ()))))))))))))))))
abbrev wf (x0 : Setup) (x1 : zt1) (x2 : Cmd) : Prop := wfA [(.val zk27 .f), (.val zk3 .o), (.val zk8 .f)] (x0, (x1, (x2, ())))
noncomputable def raw (x0 : Setup) (x1 : zt1) (x2 : Cmd) : Option (Unit × (zt1 × (Answer × Unit))) :=
 if (decide (x2.2.2.1 = (8 : Int))) = true then
 letB (minI (100000 : Int) (IntKind.wrap .i64 (x1.2.2.2.1 + x2.2.2.2.1))) fun v1 =>
 if (spec_l6New.pre4 ((0 : Int), (v1, (x1.2.2.2.2.2.2, (x1.1, (x1.2.1, (x1.2.2.1, (x1.2.2.2.2.1, (x1.2.2.2.2.2.1, ((0 : Int), ((), (([] : List Row), (([] : List Maker), (([] : List Group), (([] : List Int), (([] : List Answer), (((0 : Int), zd6), ()))))))))))))))))) = true then
 letB (spec_l6New.fn4 ((0 : Int), (v1, (x1.2.2.2.2.2.2, (x1.1, (x1.2.1, (x1.2.2.1, (x1.2.2.2.2.1, (x1.2.2.2.2.2.1, ((0 : Int), ((), (([] : List Row), (([] : List Maker), (([] : List Group), (([] : List Int), (([] : List Answer), (((0 : Int), zd6), ()))))))))))))))))) fun v2 =>
 some ((), ((v2.2.2.1, (v2.2.2.2.1, (v2.2.2.2.2.1, (v2.1, (v2.2.2.2.2.2.1, (v2.2.2.2.2.2.2.1, v2.2.1)))))), (((0 : Int), (v2.1, (([] : List UInt8), (([] : List UInt8), ())))), ())))
 else
 none
 else
 letB (impl_within x2.2.2.1 (4 : Int) (7 : Int)) fun v3 =>
 if v3 = true then
 if (decide ((2 : Int) ≤ x2.2.2.2.1)) = true then
 some ((), (x1, (((9 : Int), zd6), ())))
 else
 if (spec_l6Group.pre x0 x1 x2) = true then
 letB (doGroup x0 x1 x2) fun v4 =>
 some ((), (v4.1, (v4.2, ())))
 else
 none
 else
 if (decide (x0.1 ≤ x2.2.2.2.1)) = true then
 some ((), (x1, (((5 : Int), zd6), ())))
 else
 if (spec_l6Row.pre x0 x1 x2) = true then
 letB (doRow x0 x1 x2) fun v5 =>
 some ((), (v5.1, (v5.2, ())))
 else
 none
theorem ok4 (x1 x2 : Int) (x3 : Unit) (x4 : List Row) (x5 : List Maker) (x6 : List Group) (x7 : List Int) (x8 : List Answer) (x9 : Int) (x10 : Unit) (x11 : List Row) (x12 : List Maker) (x13 : List Group) (x14 : List Int) (x15 : List Answer) (x16 : Answer) (hp : pre4 (x1, (x2, (x3, (x4, (x5, (x6, (x7, (x8, (x9, (x10, (x11, (x12, (x13, (x14, (x15, (x16, ())))))))))))))))) = true) :
 Rounds pre4 mu4 fn4 (x1, (x2, (x3, (x4, (x5, (x6, (x7, (x8, (x9, (x10, (x11, (x12, (x13, (x14, (x15, (x16, ())))))))))))))))) (raw4 x1 x2 x3 x4 x5 x6 x7 x8 x9 x10 x11 x12 x13 x14 x15 x16) := by
 simp only [pre4, Bool.and_eq_true, decide_eq_true_eq, List.all_eq_true] at hp
 obtain ⟨h1, h2, h3, h4⟩ := hp
 unfold raw4
 by_cases hlt : x1 < (x6.length : Int)
 · have hn : x1.toNat < x6.length := by omega
   have e1 := List.drop_eq_getElem_cons hn
   have ht : tickP x6[x1.toNat] x2 = true := h4 _ (by rw [e1]; exact List.mem_cons_self)
   have es : (x1 + 1).toNat = x1.toNat + 1 := by omega
   rw [getD_get hn, w64 (n := x1 + 1) (by omega) (by omega), modify_const]
   refine R_if (decide_eq_true hlt) (R_if (decide_eq_true h1) (R_if (decide_eq_true hlt) (R_if (show spec_GroupTick.pre _ _ = true from ht) (R_if (decide_eq_true h1) (R_if (decide_eq_true hlt) ⟨?_, ?_, ?_⟩)))))
   · simp only [pre4, Bool.and_eq_true, decide_eq_true_eq, List.all_eq_true, List.length_set, es]
     refine ⟨by omega, by omega, h3, fun g hg => h4 g ?_⟩
     rw [List.drop_set_of_lt (by omega)] at hg
     rw [e1]; exact List.mem_cons_of_mem _ hg
   · simp only [mu4, List.length_set]; omega
   · simp only [fn4, es]
     rw [List.drop_set_of_lt (by omega), e1, List.take_add_one, List.getElem?_set_self hn, List.take_set_of_le (Nat.le_refl _)]
     simp only [Option.toList, List.map_cons, List.append_assoc, List.cons_append, List.nil_append]
 · refine R_else (by rw [decide_eq_true_eq]; exact hlt) ?_
   simp only [Rounds, fn4]
   rw [List.drop_eq_nil_of_le (by omega), List.take_of_length_le (by omega)]
   simp
noncomputable def pre (s : Setup) (k : Keep) (c : Cmd) : Bool := B (cmdP s k c)
theorem eq (x0 : Setup) (x1 : Keep) (x2 : Cmd) (_ : wf x0 x1 x2) (hp : pre x0 x1 x2 = true) : raw x0 x1 x2 = some ((), ((doNew x0 x1 x2).1, ((doNew x0 x1 x2).2, ()))) := by
 have hcp := B_iff.1 hp
 obtain ⟨hk, hc, hw⟩ := hcp
 obtain ⟨⟨h0, h1, h2, h3, h4, h5, h6⟩, k1, k2, k3, k4, k5⟩ := hk
 have hs := setup_facts h0
 have cf := cmd_facts hc hw
 have tk := tickT_ok (B_iff.1 hp)
 refine W_eq2 ?_
 unfold raw doNew
 rw [w64 (n := x1.2.2.2.1 + x2.2.2.2.1) (by omega) (by omega)]
 refine W_ite (fun c1 => ?_) fun c1 => ?_
 · rw [decide_eq_true_eq] at c1; rw [if_pos c1]
   refine W_let (W_if ?_ (W_let (W_some rfl)))
   show (decide ((0 : Int) ≤ 0) && (decide ((0 : Int) ≤ (x1.2.2.1.length : Int)) && (decide (x1.2.2.1.length ≤ 1000) && (x1.2.2.1.drop (Int.toNat 0)).all fun g => tickP g (tickT x1 x2)))) = true
   simp only [Bool.and_eq_true, decide_eq_true_eq, List.all_eq_true]
   exact ⟨by omega, by omega, by omega, fun g hg => tickP_of (k2 g hg) hs.2.1 tk.1 tk.2⟩
 rw [decide_eq_true_eq] at c1; rw [if_neg c1]
 refine W_let (W_ite (fun c2 => ?_) fun c2 => ?_)
 · rw [if_pos c2]
   refine W_ite (fun c3 => ?_) fun c3 => ?_
   · rw [decide_eq_true_eq] at c3; rw [if_pos c3]; exact W_some rfl
   · rw [decide_eq_true_eq] at c3; rw [if_neg c3]
     exact W_if (B_iff.2 ⟨B_iff.1 hp, by omega⟩) (W_let (W_some rfl))
 · rw [if_neg c2]
   refine W_ite (fun c3 => ?_) fun c3 => ?_
   · rw [decide_eq_true_eq] at c3; rw [if_pos c3]; exact W_some rfl
   · rw [decide_eq_true_eq] at c3; rw [if_neg c3]
     exact W_if (B_iff.2 ⟨B_iff.1 hp, by omega⟩) (W_let (W_some rfl))
end spec_l6New
abbrev spec_l6New := doNew
theorem doNew_ok {s : Setup} {k : Keep} {c : Cmd} (h : cmdP s k c) : KeepP s (doNew s k c).1 ∧ AnswerOk (doNew s k c).2 = true := by
 have h' := h
 obtain ⟨hk, hc, hw⟩ := h'
 have hk' := hk
 obtain ⟨⟨h0, h1, h2, h3, h4, h5, h6⟩, k1, k2, k3, k4, k5⟩ := hk'
 have tk := tickT_ok h
 unfold doNew
 split
 · refine ⟨⟨⟨h0, h1, by show (k.2.2.1.map _).length = 2; rw [List.length_map]; exact h2, h3, h4, tk.1, tk.2⟩, k1, fun g hg => ?_, k3, k4, k5⟩, ans_ok (by omega) (by omega) (by omega) tk.2⟩
   obtain ⟨g0, hg0, rfl⟩ := List.mem_map.1 hg
   exact groupTick_ok (k2 g0 hg0)
 split
 · split
   · exact ⟨hk, ans_ok (by omega) (by omega) (by omega) (by omega)⟩
   · exact doGroup_ok h (by omega)
 split
 · exact ⟨hk, ans_ok (by omega) (by omega) (by omega) (by omega)⟩
 · exact doRow_ok h (by omega)
def zAns : Answer := ((0 : Int), zd6)
def noted (k : Keep) (c : Cmd) (a : Answer) : Keep := (k.1, (k.2.1, (k.2.2.1, (k.2.2.2.1, (k.2.2.2.2.1.modify c.1.toNat (fun _ => c.2.1), (k.2.2.2.2.2.1.modify c.1.toNat (fun _ => a), k.2.2.2.2.2.2))))))
def doCmd (s : Setup) (k : Keep) (c : Cmd) : Keep × Answer :=
 if c.1 < 0 then (k, zAns)
 else if c.2.1 ≤ k.2.2.2.2.1.getD c.1.toNat 0 then (k, k.2.2.2.2.2.1.getD c.1.toNat ((0 : Int), zd6))
 else (noted (doNew s k c).1 c (doNew s k c).2, (doNew s k c).2)
theorem zAns_ok : AnswerOk zAns = true := by decide
theorem noted_ok {s : Setup} {k : Keep} {c : Cmd} {a : Answer} (h : KeepP s k) (hc : CmdOk c = true) (hw : 0 ≤ c.1) (ha : AnswerOk a = true) : KeepP s (noted k c a) := by
 obtain ⟨⟨h0, h1, h2, h3, h4, h5, h6⟩, k1, k2, k3, k4, k5⟩ := h
 have cf := cmd_facts hc hw
 refine ⟨⟨h0, h1, h2, by show (k.2.2.2.2.1.modify _ _).length = 4; rw [List.length_modify]; exact h3, by show (k.2.2.2.2.2.1.modify _ _).length = 4; rw [List.length_modify]; exact h4, h5, h6⟩, k1, k2, fun d hd => ?_, fun x hx => ?_, k5⟩
 · rcases mem_modify hd with rfl | hd
   · have := cf.2.1; omega
   · exact k3 d hd
 · rcases mem_modify hx with rfl | hx
   · exact ha
   · exact k4 x hx
theorem cmd_none {c : Cmd} (h : CmdOk c = true) : c.1 = -1 ∨ 0 ≤ c.1 := by
 unfold CmdOk at h
 split at h
 · exact .inl ‹_›
 · simp only [Bool.and_eq_true] at h
   exact .inr (within_hi h.1).1
theorem doCmd_ok {s : Setup} {k : Keep} {c : Cmd} (hk : KeepP s k) (hc : CmdOk c = true) : KeepP s (doCmd s k c).1 ∧ AnswerOk (doCmd s k c).2 = true := by
 unfold doCmd
 split
 · exact ⟨hk, zAns_ok⟩
 have hw : 0 ≤ c.1 := by rcases cmd_none hc with h | h <;> omega
 have cf := cmd_facts hc hw
 split
 · have hk' := hk
   obtain ⟨⟨h0, h1, h2, h3, h4, h5, h6⟩, k1, k2, k3, k4, k5⟩ := hk'
   exact ⟨hk, k4 _ (getD_mem (by omega) _)⟩
 · have := doNew_ok ⟨hk, hc, hw⟩
   exact ⟨noted_ok this.1 hc hw this.2, this.2⟩
theorem copy_pre {s : Setup} {k : Keep} (h : KeepP s k) : spec_l6Copy.pre k = true := keep_S h
namespace spec_l6Do
noncomputable def pre (s : Setup) (k : Keep) (c : Cmd) : Bool := B (KeepP s k ∧ CmdOk c = true)
abbrev wf (x0 : Setup) (x1 : zt1) (x2 : Cmd) : Prop := wfA [(.val zk27 .f), (.val zk3 .f), (.val zk8 .f)] (x0, (x1, (x2, ())))
noncomputable def raw (x0 : Setup) (x1 : zt1) (x2 : Cmd) : Option (Unit × (zt1 × (Answer × Unit))) :=
 if (decide (x2.1 < (0 : Int))) = true then
 if (spec_l6Copy.pre x1) = true then
 letB (spec_l6Copy x1) fun v1 =>
 some ((), (v1, (((0 : Int), zd6), ())))
 else
 none
 else
 if (decide ((0 : Int) ≤ x2.1)) = true then
 if (decide (x2.1 < ((List.length x1.2.2.2.2.1 : Nat) : Int))) = true then
 if (decide (x2.2.1 ≤ (List.getD x1.2.2.2.2.1 (Int.toNat x2.1) (0 : Int)))) = true then
 if (spec_l6Copy.pre x1) = true then
 if (decide ((0 : Int) ≤ x2.1)) = true then
 if (decide (x2.1 < ((List.length x1.2.2.2.2.2.1 : Nat) : Int))) = true then
 letB (spec_l6Copy x1) fun v2 =>
 some ((), (v2, ((List.getD x1.2.2.2.2.2.1 (Int.toNat x2.1) ((0 : Int), zd6)), ())))
 else
 none
 else
 none
 else
 none
 else
 if (spec_l6Copy.pre x1) = true then
 letB (spec_l6Copy x1) fun v3 =>
 if (spec_l6New.pre x0 v3 x2) = true then
 if (decide ((0 : Int) ≤ x2.1)) = true then
 letB (doNew x0 v3 x2) fun v4 =>
 if (decide (x2.1 < ((List.length v4.1.2.2.2.2.1 : Nat) : Int))) = true then
 if (decide ((0 : Int) ≤ x2.1)) = true then
 if (decide (x2.1 < ((List.length v4.1.2.2.2.2.2.1 : Nat) : Int))) = true then
 some ((), ((v4.1.1, (v4.1.2.1, (v4.1.2.2.1, (v4.1.2.2.2.1, ((List.modify v4.1.2.2.2.2.1 (Int.toNat x2.1) (fun z => x2.2.1)), ((List.modify v4.1.2.2.2.2.2.1 (Int.toNat x2.1) (fun z => v4.2)), v4.1.2.2.2.2.2.2)))))), (v4.2, ())))
 else
 none
 else
 none
 else
 none
 else
 none
 else
 none
 else
 none
 else
 none
 else
 none
theorem eq (x0 : Setup) (x1 : Keep) (x2 : Cmd) (_ : wf x0 x1 x2) (hp : pre x0 x1 x2 = true) : raw x0 x1 x2 = some ((), ((doCmd x0 x1 x2).1, ((doCmd x0 x1 x2).2, ()))) := by
 obtain ⟨hk, hc⟩ := B_iff.1 hp
 have cp := copy_pre hk
 refine W_eq2 ?_
 unfold raw doCmd
 rw [show spec_l6Copy x1 = x1 from rfl]
 refine W_ite (fun c1 => ?_) fun c1 => ?_
 · rw [decide_eq_true_eq] at c1; rw [if_pos c1]
   exact W_if cp (W_let (W_some rfl))
 rw [decide_eq_true_eq] at c1; rw [if_neg c1]
 have hw : 0 ≤ x2.1 := by omega
 have cf := cmd_facts hc hw
 have hd : x2.1 < (x1.2.2.2.2.1.length : Int) := by have := hk.1.2.2.2.1; omega
 have hl : x2.1 < (x1.2.2.2.2.2.1.length : Int) := by have := hk.1.2.2.2.2.1; omega
 have hcp : cmdP x0 x1 x2 := ⟨hk, hc, hw⟩
 have hn := (doNew_ok hcp).1.1
 refine W_if (decide_eq_true hw) (W_if (decide_eq_true hd) (W_ite (fun c2 => ?_) fun c2 => ?_))
 · rw [decide_eq_true_eq] at c2; rw [if_pos c2]
   exact W_if cp (W_if (decide_eq_true hw) (W_if (decide_eq_true hl) (W_let (W_some rfl))))
 · rw [decide_eq_true_eq] at c2; rw [if_neg c2]
   refine W_if cp (W_let (W_if (show spec_l6New.pre x0 x1 x2 = true from B_iff.2 hcp) (W_if (decide_eq_true hw) (W_let (W_if (decide_eq_true (show x2.1 < ((doNew x0 x1 x2).1.2.2.2.2.1.length : Int) by have := hn.2.2.2.1; omega)) (W_if (decide_eq_true hw) (W_if (decide_eq_true (show x2.1 < ((doNew x0 x1 x2).1.2.2.2.2.2.1.length : Int) by have := hn.2.2.2.2.1; omega)) (W_some rfl))))))))
end spec_l6Do
abbrev spec_l6Do := doCmd
theorem not_true {b : Bool} (h : ¬ b = true) : b = false := by
 cases b
 · rfl
 · exact absurd rfl h
theorem keepNew_P {s : Setup} (h : SetupOk s = true) : KeepP s (KeepNew s) := by
 have hs := setup_facts h
 rw [show KeepNew s = newKeep s.1 from if_pos h]
 refine ⟨⟨h, by show ((List.replicate _ _).length : Int) = s.1; rw [List.length_replicate]; omega, by rfl, by rfl, by rfl, Int.le_refl _, by show (0 : Int) ≤ 100000; omega⟩, fun r hr => ?_, fun g hg => ?_, fun d hd => ?_, fun a ha => ?_, fun m hm => absurd hm List.not_mem_nil, List.Pairwise.nil⟩
 · rw [List.eq_of_mem_replicate hr]; decide
 · rw [List.eq_of_mem_replicate hg]
   unfold GroupNew
   rw [if_pos (by simp only [impl_within, Bool.and_eq_true, decide_eq_true_eq]; omega)]
   refine groupOk_iff.2 ⟨⟨rfl, by show ((List.replicate _ _).length : Int) = s.1; rw [List.length_replicate]; omega, by omega, by omega⟩, fun m hm => absurd hm List.not_mem_nil, List.Pairwise.nil, fun b hb => absurd hb List.not_mem_nil, fun o ho => ?_⟩
   rw [List.eq_of_mem_replicate ho]; omega
 · rw [List.eq_of_mem_replicate hd]; omega
 · rw [List.eq_of_mem_replicate ha]; decide
def stepC (s : Setup) (k : Keep) (c : Cmd) : Keep × Answer := cond (SetupOk s && CmdOk c) (doCmd s k c) (k, zAns)
def allC (s : Setup) : Keep → List Answer → List Cmd → Keep × List Answer
 | k, out, [] => (k, out)
 | k, out, c :: r => allC s (stepC s k c).1 (out ++ [(stepC s k c).2]) r
def KeepAll (s : Setup) (l : List Cmd) : Keep × List Answer := allC s (KeepNew s) [] l
theorem stepC_ok {s : Setup} {k : Keep} {c : Cmd} (h : SetupOk s = true → KeepP s k) : (SetupOk s = true → KeepP s (stepC s k c).1) ∧ AnswerOk (stepC s k c).2 = true := by
 unfold stepC
 cases h1 : SetupOk s
 · exact ⟨fun h => (by cases h), zAns_ok⟩
 cases h2 : CmdOk c
 · exact ⟨fun _ => h h1, zAns_ok⟩
 · have := doCmd_ok (h h1) h2
   exact ⟨fun _ => this.1, this.2⟩
theorem allC_ok {s : Setup} : (l : List Cmd) → (k : Keep) → (out : List Answer) → (SetupOk s = true → KeepP s k) → out.all AnswerOk = true → (SetupOk s = true → KeepP s (allC s k out l).1) ∧ (allC s k out l).2.all AnswerOk = true ∧ (allC s k out l).2.length = out.length + l.length
 | [], k, out, h, ho => ⟨h, ho, rfl⟩
 | c :: r, k, out, h, ho => by
  have hc := stepC_ok (c := c) h
  have := allC_ok r (stepC s k c).1 (out ++ [(stepC s k c).2]) hc.1 (by rw [List.all_append, ho]; simp [hc.2])
  simp only [allC]
  refine ⟨this.1, this.2.1, ?_⟩
  rw [this.2.2, List.length_append, List.length_cons, List.length_cons, List.length_nil]; omega
theorem keepAll_ok {s : Setup} {l : List Cmd} : (SetupOk s = true → KeepP s (KeepAll s l).1) ∧ (KeepAll s l).2.all AnswerOk = true ∧ (KeepAll s l).2.length = l.length := by
 have := allC_ok (s := s) l (KeepNew s) [] keepNew_P rfl
 refine ⟨this.1, this.2.1, ?_⟩
 rw [show KeepAll s l = allC s (KeepNew s) [] l from rfl, this.2.2, List.length_nil]; omega
namespace spec_KeepAll
abbrev S4 : Type := ((List Cmd) × (Int × (Setup × zt15)))
abbrev O4 : Type := zt15
noncomputable def pre4 : S4 → Bool := fun (x1, x2, x3, _, _, _, _, _, _, _, x11, x12, x13, x14, x15, x16, x17, x18, _) => small x1 && (decide (0 ≤ x2) && (decide (x2 ≤ (x1.length : Int)) && (decide ((x11.length : Int) = x2) && B (SetupOk x3 = true → KeepP x3 (x14, (x15, (x16, (x12, (x17, (x18, x13)))))))))) 
def mu4 : S4 → Nat := fun (x1, x2, _) => x1.length - x2.toNat
def Q4 (s : S4) (o : O4) : Prop := match s, o with
 | (x1, x2, x3, _, _, _, _, _, _, _, x11, x12, x13, x14, x15, x16, x17, x18, _), (_, _, _, _, _, _, _, o11, o12, o13, o14, o15, o16, o17, o18, _) =>
  ((o14, (o15, (o16, (o12, (o17, (o18, o13)))))), o11) = allC x3 (x14, (x15, (x16, (x12, (x17, (x18, x13)))))) x11 (x1.drop x2.toNat)
noncomputable def raw4 (x1 : (List Cmd)) (x2 : Int) (x3 : Setup) (x4 : Int) (x5 : Unit) (x6 : (List Row)) (x7 : (List Maker)) (x8 : (List Group)) (x9 : (List Int)) (x10 : (List Answer)) (x11 : (List Answer)) (x12 : Int) (x13 : Unit) (x14 : (List Row)) (x15 : (List Maker)) (x16 : (List Group)) (x17 : (List Int)) (x18 : (List Answer)) : Option (((List Cmd) × (Int × (Setup × zt15))) ⊕ zt15) :=
 if (decide (x2 < ((List.length x1 : Nat) : Int))) = true then
 letB (SetupOk x3) fun v1 =>
 if v1 = true then
 if (decide ((0 : Int) ≤ x2)) = true then
 if (decide (x2 < ((List.length x1 : Nat) : Int))) = true then
 letB (CmdOk (List.getD x1 (Int.toNat x2) ((0 : Int), zd22))) fun v2 =>
 if v2 = true then
 if (decide ((0 : Int) ≤ x2)) = true then
 if (decide (x2 < ((List.length x1 : Nat) : Int))) = true then
 if (spec_l6Do.pre x3 (x14, (x15, (x16, (x12, (x17, (x18, x13)))))) (List.getD x1 (Int.toNat x2) ((0 : Int), zd22))) = true then
 letB (doCmd x3 (x14, (x15, (x16, (x12, (x17, (x18, x13)))))) (List.getD x1 (Int.toNat x2) ((0 : Int), zd22))) fun v3 =>
 if (decide (List.length x11 + List.length (v3.2 :: ([] : List Answer)) ≤ lim)) = true then
 some (.inl (x1, ((IntKind.wrap .i64 (x2 + (1 : Int))), (x3, (x4, (x5, (x6, (x7, (x8, (x9, (x10, ((List.append x11 (v3.2 :: ([] : List Answer))), (v3.1.2.2.2.1, (v3.1.2.2.2.2.2.2, (v3.1.1, (v3.1.2.1, (v3.1.2.2.1, v3.1.2.2.2.2)))))))))))))))))
 else
 none
 else
 none
 else
 none
 else
 none
 else
 if (decide (List.length x11 + List.length (((0 : Int), zd6) :: ([] : List Answer)) ≤ lim)) = true then
 some (.inl (x1, ((IntKind.wrap .i64 (x2 + (1 : Int))), (x3, (x4, (x5, (x6, (x7, (x8, (x9, (x10, ((List.append x11 (((0 : Int), zd6) :: ([] : List Answer))), (x12, (x13, (x14, (x15, (x16, (x17, (x18, ())))))))))))))))))))
 else
 none
 else
 none
 else
 none
 else
 if (decide (List.length x11 + List.length (((0 : Int), zd6) :: ([] : List Answer)) ≤ lim)) = true then
 some (.inl (x1, ((IntKind.wrap .i64 (x2 + (1 : Int))), (x3, (x4, (x5, (x6, (x7, (x8, (x9, (x10, ((List.append x11 (((0 : Int), zd6) :: ([] : List Answer))), (x12, (x13, (x14, (x15, (x16, (x17, (x18, ())))))))))))))))))))
 else
 none
 else
 some (.inr (x4, (x5, (x6, (x7, (x8, (x9, (x10, (x11, (x12, (x13, (x14, (x15, (x16, (x17, (x18, ()))))))))))))))))
theorem wp4 : ∀ s, pre4 s = true → Wp ((fun (x : S4) => raw4 x.1 x.2.1 x.2.2.1 x.2.2.2.1 x.2.2.2.2.1 x.2.2.2.2.2.1 x.2.2.2.2.2.2.1 x.2.2.2.2.2.2.2.1 x.2.2.2.2.2.2.2.2.1 x.2.2.2.2.2.2.2.2.2.1 x.2.2.2.2.2.2.2.2.2.2.1 x.2.2.2.2.2.2.2.2.2.2.2.1 x.2.2.2.2.2.2.2.2.2.2.2.2.1 x.2.2.2.2.2.2.2.2.2.2.2.2.2.1 x.2.2.2.2.2.2.2.2.2.2.2.2.2.2.1 x.2.2.2.2.2.2.2.2.2.2.2.2.2.2.2.1 x.2.2.2.2.2.2.2.2.2.2.2.2.2.2.2.2.1 x.2.2.2.2.2.2.2.2.2.2.2.2.2.2.2.2.2.1) s) (Step pre4 mu4 Q4 s) := by
 rintro ⟨x1, x2, x3, x4, x5, x6, x7, x8, x9, x10, x11, x12, x13, x14, x15, x16, x17, x18, ⟨⟩⟩ hp
 simp only [pre4, Bool.and_eq_true, decide_eq_true_eq, B_iff] at hp
 obtain ⟨hs, h1, h2, h3, hk⟩ := hp
 have hs' := small_iff.1 hs
 show Wp (raw4 x1 x2 x3 x4 x5 x6 x7 x8 x9 x10 x11 x12 x13 x14 x15 x16 x17 x18) _
 unfold raw4
 generalize hK : ((x14, (x15, (x16, (x12, (x17, (x18, x13)))))) : Keep) = K at hk ⊢
 have q14 : x14 = K.1 := by rw [← hK]
 have q15 : x15 = K.2.1 := by rw [← hK]
 have q16 : x16 = K.2.2.1 := by rw [← hK]
 have q12 : x12 = K.2.2.2.1 := by rw [← hK]
 have q17 : x17 = K.2.2.2.2.1 := by rw [← hK]
 have q18 : x18 = K.2.2.2.2.2.1 := by rw [← hK]
 clear hK
 subst q14 q15 q16 q12 q17 q18
 by_cases hlt : x2 < (x1.length : Int)
 · have hn : x2.toNat < x1.length := by omega
   have e1 := List.drop_eq_getElem_cons hn
   rw [getD_get hn, w64 (n := x2 + 1) (by omega) (by omega)]
   have hl : ∀ a : Answer, decide (x11.length + (a :: ([] : List Answer)).length ≤ lim) = true := fun a => by
    simp only [decide_eq_true_eq, List.length_cons, List.length_nil, lim]; omega
   have nx : ∀ (K' : Keep) (a : Answer), stepC x3 K x1[x2.toNat] = (K', a) → Step pre4 mu4 Q4 (x1, x2, x3, x4, x5, x6, x7, x8, x9, x10, x11, K.2.2.2.1, x13, K.1, K.2.1, K.2.2.1, K.2.2.2.2.1, K.2.2.2.2.2.1, ())
    (.inl (x1, ((x2 + 1), (x3, (x4, (x5, (x6, (x7, (x8, (x9, (x10, ((List.append x11 (a :: ([] : List Answer))), (K'.2.2.2.1, ((), (K'.1, (K'.2.1, (K'.2.2.1, (K'.2.2.2.2.1, (K'.2.2.2.2.2.1, ()))))))))))))))))))) := by
    intro K' a he
    have hok := (stepC_ok (c := x1[x2.toNat]) hk).1
    rw [he] at hok
    refine ⟨?_, by simp only [mu4]; omega, ?_⟩
    · simp only [pre4, Bool.and_eq_true, decide_eq_true_eq, B_iff, List.append_eq, List.length_append, List.length_cons, List.length_nil]
      exact ⟨hs, by omega, by omega, by omega, hok⟩
    · rintro ⟨_, _, _, _, _, _, _, o11, o12, o13, o14, o15, o16, o17, o18, ⟨⟩⟩ ho
      refine ho.trans ?_
      show allC x3 K' (x11 ++ [a]) (x1.drop (x2 + 1).toNat) = allC x3 K x11 (x1.drop x2.toNat)
      rw [e1, show (x2 + 1).toNat = x2.toNat + 1 by omega]
      simp only [allC, he]
   refine W_if (decide_eq_true hlt) (W_let (W_ite (fun c1 => ?_) fun c1 => ?_))
   · refine W_if (decide_eq_true h1) (W_if (decide_eq_true hlt) (W_let (W_ite (fun c2 => ?_) fun c2 => ?_)))
     · refine W_if (decide_eq_true h1) (W_if (decide_eq_true hlt) (W_if (show spec_l6Do.pre x3 K x1[x2.toNat] = true from B_iff.2 ⟨hk c1, c2⟩) (W_let (W_if (hl _) (W_some (nx (doCmd x3 K x1[x2.toNat]).1 (doCmd x3 K x1[x2.toNat]).2 ?_))))))
       unfold stepC; rw [c1, c2]; rfl
     · refine W_if (hl _) (W_some (nx K zAns ?_))
       unfold stepC
       rw [not_true c2, Bool.and_false]; rfl
   · refine W_if (hl _) (W_some (nx K zAns ?_))
     unfold stepC
     rw [not_true c1, Bool.false_and]; rfl
 · refine W_else (by rw [decide_eq_true_eq]; exact hlt) (W_some ?_)
   show (K, x11) = allC x3 K x11 (x1.drop x2.toNat)
   rw [List.drop_eq_nil_of_le (by omega)]; rfl
noncomputable def fn4 : S4 → O4 := runF (fun (x : S4) => raw4 x.1 x.2.1 x.2.2.1 x.2.2.2.1 x.2.2.2.2.1 x.2.2.2.2.2.1 x.2.2.2.2.2.2.1 x.2.2.2.2.2.2.2.1 x.2.2.2.2.2.2.2.2.1 x.2.2.2.2.2.2.2.2.2.1 x.2.2.2.2.2.2.2.2.2.2.1 x.2.2.2.2.2.2.2.2.2.2.2.1 x.2.2.2.2.2.2.2.2.2.2.2.2.1 x.2.2.2.2.2.2.2.2.2.2.2.2.2.1 x.2.2.2.2.2.2.2.2.2.2.2.2.2.2.1 x.2.2.2.2.2.2.2.2.2.2.2.2.2.2.2.1 x.2.2.2.2.2.2.2.2.2.2.2.2.2.2.2.2.1 x.2.2.2.2.2.2.2.2.2.2.2.2.2.2.2.2.2.1) mu4
theorem ok4 (x1 : List Cmd) (x2 : Int) (x3 : Setup) (x4 : Int) (x5 : Unit) (x6 : List Row) (x7 : List Maker) (x8 : List Group) (x9 : List Int) (x10 x11 : List Answer) (x12 : Int) (x13 : Unit) (x14 : List Row) (x15 : List Maker) (x16 : List Group) (x17 : List Int) (x18 : List Answer) (hp : pre4 (x1, (x2, (x3, (x4, (x5, (x6, (x7, (x8, (x9, (x10, (x11, (x12, (x13, (x14, (x15, (x16, (x17, (x18, ())))))))))))))))))) = true) :
 Rounds pre4 mu4 fn4 (x1, (x2, (x3, (x4, (x5, (x6, (x7, (x8, (x9, (x10, (x11, (x12, (x13, (x14, (x15, (x16, (x17, (x18, ())))))))))))))))))) (raw4 x1 x2 x3 x4 x5 x6 x7 x8 x9 x10 x11 x12 x13 x14 x15 x16 x17 x18) := runF_ok wp4 hp
def pre (_ : Setup) (l : List Cmd) : Bool := small l
abbrev wf (x0 : Setup) (x1 : (List Cmd)) : Prop := wfA [(.val zk27 .f), (.val (.sl 0 zk8) .f)] (x0, (x1, ()))
noncomputable def raw (x0 : Setup) (x1 : (List Cmd)) : Option (Unit × (zt1 × ((List Answer) × Unit))) :=
 if (spec_KeepNew.pre x0) = true then
 letB (KeepNew x0) fun v1 =>
 if (spec_KeepAll.pre4 (x1, ((0 : Int), (x0, ((0 : Int), ((), (([] : List Row), (([] : List Maker), (([] : List Group), (([] : List Int), (([] : List Answer), (([] : List Answer), (v1.2.2.2.1, (v1.2.2.2.2.2.2, (v1.1, (v1.2.1, (v1.2.2.1, v1.2.2.2.2))))))))))))))))) = true then
 letB (spec_KeepAll.fn4 (x1, ((0 : Int), (x0, ((0 : Int), ((), (([] : List Row), (([] : List Maker), (([] : List Group), (([] : List Int), (([] : List Answer), (([] : List Answer), (v1.2.2.2.1, (v1.2.2.2.2.2.2, (v1.1, (v1.2.1, (v1.2.2.1, v1.2.2.2.2))))))))))))))))) fun v2 =>
 some ((), ((v2.2.2.2.2.2.2.2.2.2.2.1, (v2.2.2.2.2.2.2.2.2.2.2.2.1, (v2.2.2.2.2.2.2.2.2.2.2.2.2.1, (v2.2.2.2.2.2.2.2.2.1, (v2.2.2.2.2.2.2.2.2.2.2.2.2.2.1, (v2.2.2.2.2.2.2.2.2.2.2.2.2.2.2.1, v2.2.2.2.2.2.2.2.2.2.1)))))), (v2.2.2.2.2.2.2.2.1, ())))
 else
 none
 else
 none
theorem eq (x0 : Setup) (x1 : List Cmd) (_ : wf x0 x1) (hp : pre x0 x1 = true) : raw x0 x1 = some ((), ((KeepAll x0 x1).1, ((KeepAll x0 x1).2, ()))) := by
 have hs : small x1 = true := hp
 refine W_eq2 ?_
 unfold raw
 have hq : pre4 (x1, ((0 : Int), (x0, ((0 : Int), ((), (([] : List Row), (([] : List Maker), (([] : List Group), (([] : List Int), (([] : List Answer), (([] : List Answer), ((KeepNew x0).2.2.2.1, ((KeepNew x0).2.2.2.2.2.2, ((KeepNew x0).1, ((KeepNew x0).2.1, ((KeepNew x0).2.2.1, (KeepNew x0).2.2.2.2)))))))))))))))) = true := by
  show (small x1 && (decide ((0 : Int) ≤ 0) && (decide ((0 : Int) ≤ (x1.length : Int)) && (decide (((([] : List Answer).length : Nat) : Int) = 0) && B (SetupOk x0 = true → KeepP x0 (KeepNew x0)))))) = true
  simp only [Bool.and_eq_true, decide_eq_true_eq, B_iff]
  exact ⟨hs, by omega, by omega, rfl, keepNew_P⟩
 refine W_if (show spec_KeepNew.pre x0 = true from rfl) (W_let (W_if hq (W_fact (runF_q wp4 hq : Q4 _ (fn4 _)) ?_)))
 rintro ⟨_, _, _, _, _, _, _, o11, o12, o13, o14, o15, o16, o17, o18, ⟨⟩⟩ ho
 exact W_some ho
end spec_KeepAll
abbrev spec_KeepAll := KeepAll
def KeepQ (s : Setup) (k : Keep) : Prop :=
 (SetupOk s = true ∧ (k.1.length : Int) = s.1 ∧ k.2.2.1.length = 2 ∧ k.2.2.2.2.1.length = 4 ∧ k.2.2.2.2.2.1.length = 4 ∧ 0 ≤ k.2.2.2.1 ∧ k.2.2.2.1 ≤ 100000) ∧ (∀ r ∈ k.1, RowOk r = true) ∧ (∀ g ∈ k.2.2.1, GroupOk g s.1 = true) ∧ (∀ d ∈ k.2.2.2.2.1, 0 ≤ d ∧ d ≤ 100000) ∧ (∀ a ∈ k.2.2.2.2.2.1, AnswerOk a = true) ∧ (∀ m ∈ k.2.1, makerP m s.2.1 ∧ m.1 < s.1) ∧ k.2.1.Pairwise ltM
theorem keepP_Q {s : Setup} {k : Keep} (h : KeepP s k) : KeepQ s k := ⟨h.1, h.2.1, h.2.2.1, h.2.2.2.1, h.2.2.2.2.1, fun m hm => ⟨(h.2.2.2.2.2.1 m hm).1, (h.2.2.2.2.2.1 m hm).2.1⟩, h.2.2.2.2.2.2⟩
theorem mks_lenQ {w : Int} {ms : List Maker} (h : ∀ m ∈ ms, makerP m w) (hp : ms.Pairwise ltM) : ms.length ≤ 16 := by
 have := asc_lenF (f := fun m : Maker => 4 * m.1 + m.2.1) (n := 16) ms 0 (fun m hm => by
  obtain ⟨⟨h1, h2, h3, h4, _⟩, _⟩ := h m hm
  omega) (List.Pairwise.imp_of_mem (fun {a b} ha hb hab => by
   obtain ⟨⟨h1, h2, h3, h4, _⟩, _⟩ := h a ha
   obtain ⟨⟨g1, g2, g3, g4, _⟩, _⟩ := h b hb
   unfold ltM at hab
   omega) hp)
 omega
theorem keepQ_S {s : Setup} {k : Keep} (h : KeepQ s k) : keepS k = true ∧ k.2.1.length ≤ 16 := by
 obtain ⟨⟨h0, h1, h2, h3, h4, h5, h6⟩, k1, k2, k3, k4, k5, k6⟩ := h
 have hs := setup_facts h0
 have hm := mks_lenQ (fun m hm => (k5 m hm).1) k6
 simp only [keepS, Bool.and_eq_true, List.all_eq_true, small_iff]
 refine ⟨⟨by omega, fun r hr => small_iff.1 (row_S (k1 r hr)).2, by omega, fun m hm => ?_, by omega, fun g hg => (groupOk_S (k2 g hg) hs.2.1).1, by omega, by omega⟩, hm⟩
 obtain ⟨⟨⟨_, _, _, _, _, _, _, _, h2, _⟩, _⟩, _⟩ := k5 m hm
 omega
def itemB (x : Item) : List Int := PutNum x.1 ++ (PutText x.2.1 ++ (PutText x.2.2.1 ++ nums [x.2.2.2.1, x.2.2.2.2.1]))
def rowB (r : Row) : List Int := nums [r.1, r.2.1, (r.2.2.1.length : Int)] ++ r.2.2.1.flatMap itemB
def markB (x : Mark) : List Int := nums [x.1, x.2.1]
def makerB (m : Maker) : List Int := nums [m.1, m.2.1, m.2.2.1, IntKind.wrap .i64 (m.2.2.2.1 + 1), (m.2.2.2.2.1.length : Int)] ++ m.2.2.2.2.1.flatMap markB
def memB2 (p : Int × Int) : List Int := nums [p.1, p.2]
def groupB (g : Group) : List Int := nums [g.1, (g.2.1.length : Int)] ++ ((g.2.1.zip g.2.2.1).flatMap memB2 ++ nums g.2.2.2.1)
def lastB (p : Int × Answer) : List Int := nums [p.1, p.2.1, IntKind.wrap .i64 (p.2.2.1 + 1)] ++ (PutText p.2.2.2.1 ++ PutText p.2.2.2.2.1)
def keepB (k : Keep) : List Int := PutNum k.1.length ++ (k.1.flatMap rowB ++ (PutNum k.2.1.length ++ (k.2.1.flatMap makerB ++ (PutNum k.2.2.1.length ++ (k.2.2.1.flatMap groupB ++ (PutNum k.2.2.2.1 ++ (k.2.2.2.2.1.zip k.2.2.2.2.2.1).flatMap lastB))))))
theorem fm_len {α : Type} {f : α → List Int} {c : Nat} : (xs : List α) → (∀ x ∈ xs, (f x).length ≤ c) → (xs.flatMap f).length ≤ c * xs.length
 | [], _ => by simp
 | a :: r, h => by
  have h1 := h a List.mem_cons_self
  have h2 := fm_len r fun x hx => h x (List.mem_cons_of_mem _ hx)
  simp only [List.flatMap_cons, List.length_append, List.length_cons, Nat.mul_add]; omega
theorem wordsOk_len {t : List UInt8} (h : wordsOk t = true) : t.length ≤ 30 := by
 simp only [wordsOk, Bool.and_eq_true, decide_eq_true_eq] at h
 exact h.2
theorem itemB_len {x : Item} (h : itOk x = true) : (itemB x).length ≤ 85 := by
 simp only [itOk, Bool.and_eq_true] at h
 have h1 := wordsOk_len h.1
 have h2 := wordsOk_len h.2.1
 have a := PutNum_len x.1
 have b := PutText_len x.2.1
 have c := PutText_len x.2.2.1
 have d := nums_len [x.2.2.2.1, x.2.2.2.2.1]
 simp only [List.length_cons, List.length_nil] at d
 simp only [itemB, List.length_append]; omega
theorem rowB_len {r : Row} (h : RowOk r = true) : (rowB r).length ≤ 6815 := by
 obtain ⟨⟨_, _, _, h4⟩, h5, _⟩ := rowOk_iff.1 h
 have a := nums_len [r.1, r.2.1, (r.2.2.1.length : Int)]
 have b := fm_len (f := itemB) (c := 85) r.2.2.1 fun x hx => itemB_len (h5 x hx).2.2
 simp only [List.length_cons, List.length_nil] at a
 simp only [rowB, List.length_append]; omega
theorem makerB_len {m : Maker} {w : Int} (h : makerP m w) (hw : w ≤ 5) : (makerB m).length ≤ 75 := by
 obtain ⟨⟨_, _, _, _, _, _, _, _, h2, _⟩, _⟩ := h
 have a := nums_len [m.1, m.2.1, m.2.2.1, IntKind.wrap .i64 (m.2.2.2.1 + 1), (m.2.2.2.2.1.length : Int)]
 have b := fm_len (f := markB) (c := 10) m.2.2.2.2.1 fun x hx => nums_len [x.1, x.2.1]
 simp only [List.length_cons, List.length_nil] at a
 simp only [makerB, List.length_append]; omega
theorem groupB_len {g : Group} {rows : Int} (h : GroupOk g rows = true) (hr : rows ≤ 4) : (groupB g).length ≤ 70 := by
 have hs := groupOk_S h hr
 have ho := (groupOk_iff.1 h).1
 have a := nums_len [g.1, (g.2.1.length : Int)]
 have b := fm_len (f := memB2) (c := 10) (g.2.1.zip g.2.2.1) fun x hx => nums_len [x.1, x.2]
 have c := nums_len g.2.2.2.1
 rw [List.length_zip] at b
 simp only [List.length_cons, List.length_nil] at a
 simp only [groupB, List.length_append]; omega
theorem ansOk_words {a : Answer} (h : AnswerOk a = true) : a.2.2.1.length ≤ 30 ∧ a.2.2.2.1.length ≤ 30 := by
 simp only [AnswerOk, Bool.and_eq_true] at h
 exact ⟨wordsOk_len h.2.2.1, wordsOk_len h.2.2.2⟩
theorem lastB_len {p : Int × Answer} (h : AnswerOk p.2 = true) : (lastB p).length ≤ 85 := by
 have h1 := ansOk_words h
 have a := nums_len [p.1, p.2.1, IntKind.wrap .i64 (p.2.2.1 + 1)]
 have b := PutText_len p.2.2.2.1
 have c := PutText_len p.2.2.2.2.1
 simp only [List.length_cons, List.length_nil] at a
 simp only [lastB, List.length_append]; omega
theorem zip_snd {α β : Type} {xs : List α} {ys : List β} {p : α × β} (h : p ∈ xs.zip ys) : p.1 ∈ xs ∧ p.2 ∈ ys := by
 obtain ⟨a, b⟩ := p
 exact ⟨(List.of_mem_zip h).1, (List.of_mem_zip h).2⟩
theorem keepB_len {s : Setup} {k : Keep} (h : KeepQ s k) : (keepB k).length ≤ 30000 := by
 have hm := (keepQ_S h).2
 obtain ⟨⟨h0, h1, h2, h3, h4, h5, h6⟩, k1, k2, k3, k4, k5, k6⟩ := h
 have hs := setup_facts h0
 have a1 := PutNum_len k.1.length
 have a2 := PutNum_len k.2.1.length
 have a3 := PutNum_len k.2.2.1.length
 have a4 := PutNum_len k.2.2.2.1
 have b1 := fm_len (f := rowB) (c := 6815) k.1 fun r hr => rowB_len (k1 r hr)
 have b2 := fm_len (f := makerB) (c := 75) k.2.1 fun m hm => makerB_len (k5 m hm).1 (by omega)
 have b3 := fm_len (f := groupB) (c := 70) k.2.2.1 fun g hg => groupB_len (k2 g hg) hs.2.1
 have b4 := fm_len (f := lastB) (c := 85) (k.2.2.2.2.1.zip k.2.2.2.2.2.1) fun p hp => lastB_len (k4 _ (zip_snd hp).2)
 rw [List.length_zip] at b4
 simp only [keepB, List.length_append]; omega
theorem fl_step {α : Type} {f : α → List Int} {xs : List α} {i : Int} (out : List Int) (h0 : 0 ≤ i) (h : i < (xs.length : Int)) (d : α) : (out ++ f (xs.getD i.toNat d)) ++ (xs.drop (i + 1).toNat).flatMap f = out ++ (xs.drop i.toNat).flatMap f := by
 have hn : i.toNat < xs.length := by omega
 rw [List.drop_eq_getElem_cons hn, getD_get hn, List.flatMap_cons, show (i + 1).toNat = i.toNat + 1 by omega, List.append_assoc]
theorem fl_end {α : Type} {f : α → List Int} {xs : List α} {i : Int} (out : List Int) (h : ¬ i < (xs.length : Int)) : out = out ++ (xs.drop i.toNat).flatMap f := by
 rw [List.drop_eq_nil_of_le (by omega)]; simp
theorem nums_pre {l : List Int} (h : l.length ≤ 100) : numsPre l = true := by
 show small l = true
 rw [small_iff]; omega
theorem txt_pre {t : List UInt8} (h : t.length ≤ 30) : txtPre t = true := by
 simp only [txtPre, decide_eq_true_eq]; omega
theorem lim_ok {a b : List Int} (h1 : a.length ≤ 1000000) (h2 : b.length ≤ 1000000) : decide (a.length + b.length ≤ lim) = true := by
 simp only [decide_eq_true_eq, lim]; omega
theorem nums2_len {a b : Int} : (nums [a, b]).length ≤ 10 := nums_len [a, b]
theorem nums3_len {a b c : Int} : (nums [a, b, c]).length ≤ 15 := nums_len [a, b, c]
theorem nums5_len {a b c d e : Int} : (nums [a, b, c, d, e]).length ≤ 25 := nums_len [a, b, c, d, e]
namespace spec_l7Bytes
abbrev S8 : Type := (Int × (Int × (zt1 × ((List Int) × (Row × Unit)))))
abbrev O8 : Type := zt29
abbrev S3 : Type := zt29
abbrev O3 : Type := (zt1 × zt17)
abbrev S22 : Type := (Int × (Int × (zt1 × ((List Int) × (Maker × Unit)))))
abbrev O22 : Type := zt29
abbrev S17 : Type := zt29
abbrev O17 : Type := (zt1 × zt17)
abbrev S32 : Type := (Int × (Int × (zt1 × ((List Int) × (Group × Unit)))))
abbrev O32 : Type := (Int × (zt1 × ((List Int) × (Group × Unit))))
abbrev S27 : Type := zt29
abbrev O27 : Type := (zt1 × zt17)
abbrev S38 : Type := zt29
abbrev O38 : Type := zt17
def pre8 : S8 → Bool := fun (x1, x2, x3, x4, x5, _) => RowOk x5 && (decide (0 ≤ x1) && (decide (x1 < (x3.1.length : Int)) && (decide (0 ≤ x2) && (decide (x2 ≤ (x5.2.2.1.length : Int)) && decide (x4.length + 85 * (x5.2.2.1.length - x2.toNat) ≤ 500000)))))
def fn8 : S8 → O8 := fun (x1, x2, x3, x4, x5, _) => (x1, x3, x4 ++ (x5.2.2.1.drop x2.toNat).flatMap itemB, ())
def mu8 : S8 → Nat := fun (_, x2, _, _, x5, _) => x5.2.2.1.length - x2.toNat
def pre22 : S22 → Bool := fun (x1, x2, x3, x4, x5, _) => decide (x5.2.2.2.2.1.length ≤ 100) && (decide (0 ≤ x1) && (decide (x1 < (x3.2.1.length : Int)) && (decide (0 ≤ x2) && (decide (x2 ≤ (x5.2.2.2.2.1.length : Int)) && decide (x4.length + 10 * (x5.2.2.2.2.1.length - x2.toNat) ≤ 500000)))))
def fn22 : S22 → O22 := fun (x1, x2, x3, x4, x5, _) => (x1, x3, x4 ++ (x5.2.2.2.2.1.drop x2.toNat).flatMap markB, ())
def mu22 : S22 → Nat := fun (_, x2, _, _, x5, _) => x5.2.2.2.2.1.length - x2.toNat
def pre32 : S32 → Bool := fun (x1, x2, x3, x4, x5, _) => decide (x5.2.1.length ≤ 100) && (decide (x5.2.2.1.length = x5.2.1.length) && (decide (0 ≤ x1) && (decide (x1 < (x3.2.2.1.length : Int)) && (decide (0 ≤ x2) && (decide (x2 ≤ (x5.2.1.length : Int)) && decide (x4.length + 10 * (x5.2.1.length - x2.toNat) ≤ 500000))))))
def fn32 : S32 → O32 := fun (x1, x2, x3, x4, x5, _) => (x1, x3, x4 ++ ((x5.2.1.zip x5.2.2.1).drop x2.toNat).flatMap memB2, x5, ())
def mu32 : S32 → Nat := fun (_, x2, _, _, x5, _) => x5.2.1.length - x2.toNat
def pre3 : S3 → Bool := fun (x1, x2, x3, _) => x2.1.all RowOk && (decide (x2.1.length ≤ 4) && (decide (0 ≤ x1) && (decide (x1 ≤ (x2.1.length : Int)) && decide (x3.length + 6900 * (x2.1.length - x1.toNat) ≤ 100000))))
def fn3 : S3 → O3 := fun (x1, x2, x3, _) => (x2, x3 ++ (x2.1.drop x1.toNat).flatMap rowB, ())
def mu3 : S3 → Nat := fun (x1, x2, _) => x2.1.length - x1.toNat
def mkS (m : Maker) : Bool := decide (m.2.2.2.2.1.length ≤ 5)
def pre17 : S17 → Bool := fun (x1, x2, x3, _) => x2.2.1.all mkS && (decide (x2.2.1.length ≤ 16) && (decide (0 ≤ x1) && (decide (x1 ≤ (x2.2.1.length : Int)) && decide (x3.length + 100 * (x2.2.1.length - x1.toNat) ≤ 200000))))
def fn17 : S17 → O17 := fun (x1, x2, x3, _) => (x2, x3 ++ (x2.2.1.drop x1.toNat).flatMap makerB, ())
def mu17 : S17 → Nat := fun (x1, x2, _) => x2.2.1.length - x1.toNat
def grS (g : Group) : Bool := decide (g.2.1.length ≤ 4) && (decide (g.2.2.1.length = g.2.1.length) && decide (g.2.2.2.1.length ≤ 4))
def pre27 : S27 → Bool := fun (x1, x2, x3, _) => x2.2.2.1.all grS && (decide (x2.2.2.1.length ≤ 2) && (decide (0 ≤ x1) && (decide (x1 ≤ (x2.2.2.1.length : Int)) && decide (x3.length + 100 * (x2.2.2.1.length - x1.toNat) ≤ 300000))))
def fn27 : S27 → O27 := fun (x1, x2, x3, _) => (x2, x3 ++ (x2.2.2.1.drop x1.toNat).flatMap groupB, ())
def mu27 : S27 → Nat := fun (x1, x2, _) => x2.2.2.1.length - x1.toNat
def pre38 : S38 → Bool := fun (x1, x2, x3, _) => x2.2.2.2.2.2.1.all AnswerOk && (decide (x2.2.2.2.2.1.length ≤ 4) && (decide (x2.2.2.2.2.2.1.length = x2.2.2.2.2.1.length) && (decide (0 ≤ x1) && (decide (x1 ≤ (x2.2.2.2.2.1.length : Int)) && decide (x3.length + 100 * (x2.2.2.2.2.1.length - x1.toNat) ≤ 400000)))))
def fn38 : S38 → O38 := fun (x1, x2, x3, _) => (x3 ++ ((x2.2.2.2.2.1.zip x2.2.2.2.2.2.1).drop x1.toNat).flatMap lastB, ())
def mu38 : S38 → Nat := fun (x1, x2, _) => x2.2.2.2.2.1.length - x1.toNat
noncomputable def raw8 (x1 : Int) (x2 : Int) (x3 : zt1) (x4 : (List Int)) (x5 : Row) : Option ((Int × (Int × (zt1 × ((List Int) × (Row × Unit))))) ⊕ zt29) :=
 if (decide (x2 < ((List.length x5.2.2.1 : Nat) : Int))) = true then
 if (decide ((0 : Int) ≤ x2)) = true then
 if (decide (x2 < ((List.length x5.2.2.1 : Nat) : Int))) = true then
 letB (PutNum (List.getD x5.2.2.1 (Int.toNat x2) zd2).1) fun v1 =>
 if (decide (List.length x4 + List.length v1 ≤ lim)) = true then
 if (spec_PutText.pre (List.getD x5.2.2.1 (Int.toNat x2) zd2).2.1) = true then
 letB (PutText (List.getD x5.2.2.1 (Int.toNat x2) zd2).2.1) fun v2 =>
 if (decide (List.length (List.append x4 v1) + List.length v2 ≤ lim)) = true then
 if (spec_PutText.pre (List.getD x5.2.2.1 (Int.toNat x2) zd2).2.2.1) = true then
 letB (PutText (List.getD x5.2.2.1 (Int.toNat x2) zd2).2.2.1) fun v3 =>
 if (decide (List.length (List.append (List.append x4 v1) v2) + List.length v3 ≤ lim)) = true then
 if (spec_l7Nums.pre ((List.getD x5.2.2.1 (Int.toNat x2) zd2).2.2.2.1 :: ((List.getD x5.2.2.1 (Int.toNat x2) zd2).2.2.2.2.1 :: ([] : List Int)))) = true then
 letB (nums ((List.getD x5.2.2.1 (Int.toNat x2) zd2).2.2.2.1 :: ((List.getD x5.2.2.1 (Int.toNat x2) zd2).2.2.2.2.1 :: ([] : List Int)))) fun v4 =>
 if (decide (List.length (List.append (List.append (List.append x4 v1) v2) v3) + List.length v4 ≤ lim)) = true then
 some (.inl (x1, ((IntKind.wrap .i64 (x2 + (1 : Int))), (x3, ((List.append (List.append (List.append (List.append x4 v1) v2) v3) v4), (x5, ()))))))
 else
 none
 else
 none
 else
 none
 else
 none
 else
 none
 else
 none
 else
 none
 else
 none
 else
 none
 else
 some (.inr (x1, (x3, (x4, ()))))
noncomputable def raw3 (x1 : Int) (x2 : zt1) (x3 : (List Int)) : Option (zt29 ⊕ (zt1 × zt17)) :=
 if (decide (x1 < ((List.length x2.1 : Nat) : Int))) = true then
 if (decide ((0 : Int) ≤ x1)) = true then
 if (decide (x1 < ((List.length x2.1 : Nat) : Int))) = true then
 if (spec_l7Nums.pre ((List.getD x2.1 (Int.toNat x1) zd9).1 :: ((List.getD x2.1 (Int.toNat x1) zd9).2.1 :: (((List.length (List.getD x2.1 (Int.toNat x1) zd9).2.2.1 : Nat) : Int) :: ([] : List Int))))) = true then
 letB (nums ((List.getD x2.1 (Int.toNat x1) zd9).1 :: ((List.getD x2.1 (Int.toNat x1) zd9).2.1 :: (((List.length (List.getD x2.1 (Int.toNat x1) zd9).2.2.1 : Nat) : Int) :: ([] : List Int))))) fun v1 =>
 if (decide (List.length x3 + List.length v1 ≤ lim)) = true then
 if (spec_l7Bytes.pre8 (x1, ((0 : Int), (x2, ((List.append x3 v1), ((List.getD x2.1 (Int.toNat x1) zd9), ())))))) = true then
 letB (spec_l7Bytes.fn8 (x1, ((0 : Int), (x2, ((List.append x3 v1), ((List.getD x2.1 (Int.toNat x1) zd9), ())))))) fun v2 =>
 some (.inl ((IntKind.wrap .i64 (v2.1 + (1 : Int))), v2.2))
 else
 none
 else
 none
 else
 none
 else
 none
 else
 none
 else
 some (.inr (x2, (x3, ())))
noncomputable def raw22 (x1 : Int) (x2 : Int) (x3 : zt1) (x4 : (List Int)) (x5 : Maker) : Option ((Int × (Int × (zt1 × ((List Int) × (Maker × Unit))))) ⊕ zt29) :=
 if (decide (x2 < ((List.length x5.2.2.2.2.1 : Nat) : Int))) = true then
 if (decide ((0 : Int) ≤ x2)) = true then
 if (decide (x2 < ((List.length x5.2.2.2.2.1 : Nat) : Int))) = true then
 if (decide ((0 : Int) ≤ x2)) = true then
 if (decide (x2 < ((List.length x5.2.2.2.2.1 : Nat) : Int))) = true then
 if (spec_l7Nums.pre ((List.getD x5.2.2.2.2.1 (Int.toNat x2) zd23).1 :: ((List.getD x5.2.2.2.2.1 (Int.toNat x2) zd23).2.1 :: ([] : List Int)))) = true then
 letB (nums ((List.getD x5.2.2.2.2.1 (Int.toNat x2) zd23).1 :: ((List.getD x5.2.2.2.2.1 (Int.toNat x2) zd23).2.1 :: ([] : List Int)))) fun v1 =>
 if (decide (List.length x4 + List.length v1 ≤ lim)) = true then
 some (.inl (x1, ((IntKind.wrap .i64 (x2 + (1 : Int))), (x3, ((List.append x4 v1), (x5, ()))))))
 else
 none
 else
 none
 else
 none
 else
 none
 else
 none
 else
 none
 else
 some (.inr (x1, (x3, (x4, ()))))
noncomputable def raw17 (x1 : Int) (x2 : zt1) (x3 : (List Int)) : Option (zt29 ⊕ (zt1 × zt17)) :=
 if (decide (x1 < ((List.length x2.2.1 : Nat) : Int))) = true then
 if (decide ((0 : Int) ≤ x1)) = true then
 if (decide (x1 < ((List.length x2.2.1 : Nat) : Int))) = true then
 if (spec_l7Nums.pre ((List.getD x2.2.1 (Int.toNat x1) zd4).1 :: ((List.getD x2.2.1 (Int.toNat x1) zd4).2.1 :: ((List.getD x2.2.1 (Int.toNat x1) zd4).2.2.1 :: ((IntKind.wrap .i64 ((List.getD x2.2.1 (Int.toNat x1) zd4).2.2.2.1 + (1 : Int))) :: (((List.length (List.getD x2.2.1 (Int.toNat x1) zd4).2.2.2.2.1 : Nat) : Int) :: ([] : List Int))))))) = true then
 letB (nums ((List.getD x2.2.1 (Int.toNat x1) zd4).1 :: ((List.getD x2.2.1 (Int.toNat x1) zd4).2.1 :: ((List.getD x2.2.1 (Int.toNat x1) zd4).2.2.1 :: ((IntKind.wrap .i64 ((List.getD x2.2.1 (Int.toNat x1) zd4).2.2.2.1 + (1 : Int))) :: (((List.length (List.getD x2.2.1 (Int.toNat x1) zd4).2.2.2.2.1 : Nat) : Int) :: ([] : List Int))))))) fun v1 =>
 if (decide (List.length x3 + List.length v1 ≤ lim)) = true then
 if (spec_l7Bytes.pre22 (x1, ((0 : Int), (x2, ((List.append x3 v1), ((List.getD x2.2.1 (Int.toNat x1) zd4), ())))))) = true then
 letB (spec_l7Bytes.fn22 (x1, ((0 : Int), (x2, ((List.append x3 v1), ((List.getD x2.2.1 (Int.toNat x1) zd4), ())))))) fun v2 =>
 some (.inl ((IntKind.wrap .i64 (v2.1 + (1 : Int))), v2.2))
 else
 none
 else
 none
 else
 none
 else
 none
 else
 none
 else
 some (.inr (x2, (x3, ())))
noncomputable def raw32 (x1 : Int) (x2 : Int) (x3 : zt1) (x4 : (List Int)) (x5 : Group) : Option ((Int × (Int × (zt1 × ((List Int) × (Group × Unit))))) ⊕ (Int × (zt1 × ((List Int) × (Group × Unit))))) :=
 if (decide (x2 < ((List.length x5.2.1 : Nat) : Int))) = true then
 if (decide ((0 : Int) ≤ x2)) = true then
 if (decide (x2 < ((List.length x5.2.1 : Nat) : Int))) = true then
 if (decide ((0 : Int) ≤ x2)) = true then
 if (decide (x2 < ((List.length x5.2.2.1 : Nat) : Int))) = true then
 if (spec_l7Nums.pre ((List.getD x5.2.1 (Int.toNat x2) (0 : Int)) :: ((List.getD x5.2.2.1 (Int.toNat x2) (0 : Int)) :: ([] : List Int)))) = true then
 letB (nums ((List.getD x5.2.1 (Int.toNat x2) (0 : Int)) :: ((List.getD x5.2.2.1 (Int.toNat x2) (0 : Int)) :: ([] : List Int)))) fun v1 =>
 if (decide (List.length x4 + List.length v1 ≤ lim)) = true then
 some (.inl (x1, ((IntKind.wrap .i64 (x2 + (1 : Int))), (x3, ((List.append x4 v1), (x5, ()))))))
 else
 none
 else
 none
 else
 none
 else
 none
 else
 none
 else
 none
 else
 some (.inr (x1, (x3, (x4, (x5, ())))))
noncomputable def raw27 (x1 : Int) (x2 : zt1) (x3 : (List Int)) : Option (zt29 ⊕ (zt1 × zt17)) :=
 if (decide (x1 < ((List.length x2.2.2.1 : Nat) : Int))) = true then
 if (decide ((0 : Int) ≤ x1)) = true then
 if (decide (x1 < ((List.length x2.2.2.1 : Nat) : Int))) = true then
 if (spec_l7Nums.pre ((List.getD x2.2.2.1 (Int.toNat x1) zd7).1 :: (((List.length (List.getD x2.2.2.1 (Int.toNat x1) zd7).2.1 : Nat) : Int) :: ([] : List Int)))) = true then
 letB (nums ((List.getD x2.2.2.1 (Int.toNat x1) zd7).1 :: (((List.length (List.getD x2.2.2.1 (Int.toNat x1) zd7).2.1 : Nat) : Int) :: ([] : List Int)))) fun v1 =>
 if (decide (List.length x3 + List.length v1 ≤ lim)) = true then
 if (spec_l7Bytes.pre32 (x1, ((0 : Int), (x2, ((List.append x3 v1), ((List.getD x2.2.2.1 (Int.toNat x1) zd7), ())))))) = true then
 letB (spec_l7Bytes.fn32 (x1, ((0 : Int), (x2, ((List.append x3 v1), ((List.getD x2.2.2.1 (Int.toNat x1) zd7), ())))))) fun v2 =>
 if (spec_l7Nums.pre v2.2.2.2.1.2.2.2.1) = true then
 letB (nums v2.2.2.2.1.2.2.2.1) fun v3 =>
 if (decide (List.length v2.2.2.1 + List.length v3 ≤ lim)) = true then
 some (.inl ((IntKind.wrap .i64 (v2.1 + (1 : Int))), (v2.2.1, ((List.append v2.2.2.1 v3), ()))))
 else
 none
 else
 none
 else
 none
 else
 none
 else
 none
 else
 none
 else
 none
 else
 some (.inr (x2, (x3, ())))
noncomputable def raw38 (x1 : Int) (x2 : zt1) (x3 : (List Int)) : Option (zt29 ⊕ zt17) :=
 if (decide (x1 < ((List.length x2.2.2.2.2.1 : Nat) : Int))) = true then
 if (decide ((0 : Int) ≤ x1)) = true then
 if (decide (x1 < ((List.length x2.2.2.2.2.2.1 : Nat) : Int))) = true then
 if (decide ((0 : Int) ≤ x1)) = true then
 if (decide (x1 < ((List.length x2.2.2.2.2.1 : Nat) : Int))) = true then
 if (spec_l7Nums.pre ((List.getD x2.2.2.2.2.1 (Int.toNat x1) (0 : Int)) :: ((List.getD x2.2.2.2.2.2.1 (Int.toNat x1) ((0 : Int), zd6)).1 :: ((IntKind.wrap .i64 ((List.getD x2.2.2.2.2.2.1 (Int.toNat x1) ((0 : Int), zd6)).2.1 + (1 : Int))) :: ([] : List Int))))) = true then
 letB (nums ((List.getD x2.2.2.2.2.1 (Int.toNat x1) (0 : Int)) :: ((List.getD x2.2.2.2.2.2.1 (Int.toNat x1) ((0 : Int), zd6)).1 :: ((IntKind.wrap .i64 ((List.getD x2.2.2.2.2.2.1 (Int.toNat x1) ((0 : Int), zd6)).2.1 + (1 : Int))) :: ([] : List Int))))) fun v1 =>
 if (decide (List.length x3 + List.length v1 ≤ lim)) = true then
 if (spec_PutText.pre (List.getD x2.2.2.2.2.2.1 (Int.toNat x1) ((0 : Int), zd6)).2.2.1) = true then
 letB (PutText (List.getD x2.2.2.2.2.2.1 (Int.toNat x1) ((0 : Int), zd6)).2.2.1) fun v2 =>
 if (decide (List.length (List.append x3 v1) + List.length v2 ≤ lim)) = true then
 if (spec_PutText.pre (List.getD x2.2.2.2.2.2.1 (Int.toNat x1) ((0 : Int), zd6)).2.2.2.1) = true then
 letB (PutText (List.getD x2.2.2.2.2.2.1 (Int.toNat x1) ((0 : Int), zd6)).2.2.2.1) fun v3 =>
 if (decide (List.length (List.append (List.append x3 v1) v2) + List.length v3 ≤ lim)) = true then
 some (.inl ((IntKind.wrap .i64 (x1 + (1 : Int))), (x2, ((List.append (List.append (List.append x3 v1) v2) v3), ()))))
 else
 none
 else
 none
 else
 none
 else
 none
 else
 none
 else
 none
 else
 none
 else
 none
 else
 none
 else
 none
 else
 some (.inr (x3, ()))
abbrev wf (x0 : zt1) : Prop := wfA [(.val zk3 .f)] (x0, ())
noncomputable def raw (x0 : zt1) : Option (Unit × zt17) :=
 letB (PutNum ((List.length x0.1 : Nat) : Int)) fun v1 =>
 if (spec_l7Bytes.pre3 ((0 : Int), (x0, (v1, ())))) = true then
 letB (spec_l7Bytes.fn3 ((0 : Int), (x0, (v1, ())))) fun v2 =>
 letB (PutNum ((List.length v2.1.2.1 : Nat) : Int)) fun v3 =>
 if (decide (List.length v2.2.1 + List.length v3 ≤ lim)) = true then
 if (spec_l7Bytes.pre17 ((0 : Int), (v2.1, ((List.append v2.2.1 v3), ())))) = true then
 letB (spec_l7Bytes.fn17 ((0 : Int), (v2.1, ((List.append v2.2.1 v3), ())))) fun v4 =>
 letB (PutNum ((List.length v4.1.2.2.1 : Nat) : Int)) fun v5 =>
 if (decide (List.length v4.2.1 + List.length v5 ≤ lim)) = true then
 if (spec_l7Bytes.pre27 ((0 : Int), (v4.1, ((List.append v4.2.1 v5), ())))) = true then
 letB (spec_l7Bytes.fn27 ((0 : Int), (v4.1, ((List.append v4.2.1 v5), ())))) fun v6 =>
 letB (PutNum v6.1.2.2.2.1) fun v7 =>
 if (decide (List.length v6.2.1 + List.length v7 ≤ lim)) = true then
 if (spec_l7Bytes.pre38 ((0 : Int), (v6.1, ((List.append v6.2.1 v7), ())))) = true then
 letB (spec_l7Bytes.fn38 ((0 : Int), (v6.1, ((List.append v6.2.1 v7), ())))) fun v8 =>
 some ((), v8)
 else
 none
 else
 none
 else
 none
 else
 none
 else
 none
 else
 none
 else
 none
theorem ok8 (x1 x2 : Int) (x3 : Keep) (x4 : List Int) (x5 : Row) (hp : pre8 (x1, (x2, (x3, (x4, (x5, ()))))) = true) : Rounds pre8 mu8 fn8 (x1, (x2, (x3, (x4, (x5, ()))))) (raw8 x1 x2 x3 x4 x5) := by
 simp only [pre8, Bool.and_eq_true, decide_eq_true_eq] at hp
 obtain ⟨hr, k1, k2, h1, h2, h3⟩ := hp
 have hr' := rowOk_iff.1 hr
 unfold raw8
 by_cases hlt : x2 < (x5.2.2.1.length : Int)
 · have hit := (hr'.2.1 _ (getD_mem (show x2.toNat < x5.2.2.1.length by omega) zd2)).2.2
   have hf := fl_step (f := itemB) x4 h1 hlt zd2
   have hl := itemB_len hit
   rw [w64 (n := x2 + 1) (by omega) (by omega)]
   generalize x5.2.2.1.getD x2.toNat zd2 = e at *
   simp only [itOk, Bool.and_eq_true] at hit
   have t1 := wordsOk_len hit.1
   have t2 := wordsOk_len hit.2.1
   have a := PutNum_len e.1
   have b := PutText_len e.2.1
   have c := PutText_len e.2.2.1
   have d := nums2_len (a := e.2.2.2.1) (b := e.2.2.2.2.1)
   refine R_if (decide_eq_true hlt) (R_if (decide_eq_true h1) (R_if (decide_eq_true hlt) (R_let (R_if (lim_ok (by omega) (by omega)) (R_if (txt_pre t1) (R_let (R_if (lim_ok (by simp only [List.append_eq, List.length_append]; omega) (by omega)) (R_if (txt_pre t2) (R_let (R_if (lim_ok (by simp only [List.append_eq, List.length_append]; omega) (by omega)) (R_if (nums_pre (by simp)) (R_let (R_if (lim_ok (by simp only [List.append_eq, List.length_append]; omega) (by omega)) ⟨?_, by simp only [mu8]; omega, ?_⟩)))))))))))))
   · simp only [pre8, Bool.and_eq_true, decide_eq_true_eq, List.append_eq, List.length_append]
     refine ⟨hr, k1, k2, by omega, by omega, ?_⟩
     simp only [itemB, List.length_append] at hl
     omega
   · simp only [fn8]
     rw [← hf]
     simp only [itemB, List.append_eq, List.append_assoc]
 · exact R_else (by rw [decide_eq_true_eq]; exact hlt) (congrArg (fun z => ((x1, (x3, (z, ()))) : O8)) (fl_end x4 hlt))
theorem ok22 (x1 x2 : Int) (x3 : Keep) (x4 : List Int) (x5 : Maker) (hp : pre22 (x1, (x2, (x3, (x4, (x5, ()))))) = true) : Rounds pre22 mu22 fn22 (x1, (x2, (x3, (x4, (x5, ()))))) (raw22 x1 x2 x3 x4 x5) := by
 simp only [pre22, Bool.and_eq_true, decide_eq_true_eq] at hp
 obtain ⟨hr, k1, k2, h1, h2, h3⟩ := hp
 unfold raw22
 by_cases hlt : x2 < (x5.2.2.2.2.1.length : Int)
 · have hf := fl_step (f := markB) x4 h1 hlt zd23
   rw [w64 (n := x2 + 1) (by omega) (by omega)]
   generalize x5.2.2.2.2.1.getD x2.toNat zd23 = e at *
   have d := nums2_len (a := e.1) (b := e.2.1)
   refine R_if (decide_eq_true hlt) (R_if (decide_eq_true h1) (R_if (decide_eq_true hlt) (R_if (decide_eq_true h1) (R_if (decide_eq_true hlt) (R_if (nums_pre (by simp)) (R_let (R_if (lim_ok (by omega) (by omega)) ⟨?_, by simp only [mu22]; omega, ?_⟩)))))))
   · simp only [pre22, Bool.and_eq_true, decide_eq_true_eq, List.append_eq, List.length_append]
     exact ⟨hr, k1, k2, by omega, by omega, by omega⟩
   · simp only [fn22]
     rw [← hf]; rfl
 · exact R_else (by rw [decide_eq_true_eq]; exact hlt) (congrArg (fun z => ((x1, (x3, (z, ()))) : O22)) (fl_end x4 hlt))
theorem ok32 (x1 x2 : Int) (x3 : Keep) (x4 : List Int) (x5 : Group) (hp : pre32 (x1, (x2, (x3, (x4, (x5, ()))))) = true) : Rounds pre32 mu32 fn32 (x1, (x2, (x3, (x4, (x5, ()))))) (raw32 x1 x2 x3 x4 x5) := by
 simp only [pre32, Bool.and_eq_true, decide_eq_true_eq] at hp
 obtain ⟨hr, hb, k1, k2, h1, h2, h3⟩ := hp
 have hz : (x5.2.1.zip x5.2.2.1).length = x5.2.1.length := by rw [List.length_zip]; omega
 unfold raw32
 by_cases hlt : x2 < (x5.2.1.length : Int)
 · have hf := fl_step (f := memB2) (xs := x5.2.1.zip x5.2.2.1) x4 h1 (by omega) ((0 : Int), (0 : Int))
   have hn : x2.toNat < (x5.2.1.zip x5.2.2.1).length := by omega
   have he : (x5.2.1.zip x5.2.2.1).getD x2.toNat ((0 : Int), (0 : Int)) = (x5.2.1.getD x2.toNat 0, x5.2.2.1.getD x2.toNat 0) := by
    rw [getD_get hn, getD_get (show x2.toNat < x5.2.1.length by omega), getD_get (show x2.toNat < x5.2.2.1.length by omega), List.getElem_zip]
   rw [he] at hf
   rw [w64 (n := x2 + 1) (by omega) (by omega)]
   have d := nums2_len (a := x5.2.1.getD x2.toNat 0) (b := x5.2.2.1.getD x2.toNat 0)
   refine R_if (decide_eq_true hlt) (R_if (decide_eq_true h1) (R_if (decide_eq_true hlt) (R_if (decide_eq_true h1) (R_if (decide_eq_true (by omega)) (R_if (nums_pre (by simp)) (R_let (R_if (lim_ok (by omega) (by omega)) ⟨?_, by simp only [mu32]; omega, ?_⟩)))))))
   · simp only [pre32, Bool.and_eq_true, decide_eq_true_eq, List.append_eq, List.length_append]
     exact ⟨hr, hb, k1, k2, by omega, by omega, by omega⟩
   · simp only [fn32]
     rw [← hf]; rfl
 · exact R_else (by rw [decide_eq_true_eq]; exact hlt) (congrArg (fun z => ((x1, (x3, (z, (x5, ())))) : O32)) (fl_end x4 (by omega)))
theorem ok3 (x1 : Int) (x2 : Keep) (x3 : List Int) (hp : pre3 (x1, (x2, (x3, ()))) = true) : Rounds pre3 mu3 fn3 (x1, (x2, (x3, ()))) (raw3 x1 x2 x3) := by
 simp only [pre3, Bool.and_eq_true, decide_eq_true_eq, List.all_eq_true] at hp
 obtain ⟨hr, hl, h1, h2, h3⟩ := hp
 unfold raw3
 by_cases hlt : x1 < (x2.1.length : Int)
 · have hrow := hr _ (getD_mem (show x1.toNat < x2.1.length by omega) zd9)
   have hf := fl_step (f := rowB) x3 h1 hlt zd9
   have hb := rowB_len hrow
   have hr4 := (rowOk_iff.1 hrow).1.2.2.2
   generalize x2.1.getD x1.toNat zd9 = e at *
   have d := nums3_len (a := e.1) (b := e.2.1) (c := (e.2.2.1.length : Int))
   have hq : pre8 (x1, ((0 : Int), (x2, (List.append x3 (nums [e.1, e.2.1, (e.2.2.1.length : Int)]), (e, ()))))) = true := by
    simp only [pre8, Bool.and_eq_true, decide_eq_true_eq, List.append_eq, List.length_append]
    exact ⟨hrow, h1, hlt, by omega, by omega, by omega⟩
   refine R_if (decide_eq_true hlt) (R_if (decide_eq_true h1) (R_if (decide_eq_true hlt) (R_if (nums_pre (by simp)) (R_let (R_if (lim_ok (by omega) (by omega)) (R_if hq (R_let ?_)))))))
   simp only [fn8, Int.toNat_zero, List.drop_zero]
   rw [w64 (n := x1 + 1) (by omega) (by omega)]
   have he : List.append x3 (nums [e.1, e.2.1, (e.2.2.1.length : Int)]) ++ e.2.2.1.flatMap itemB = x3 ++ rowB e := by
    simp only [rowB, List.append_eq, List.append_assoc]
   rw [he]
   refine ⟨?_, by simp only [mu3]; omega, ?_⟩
   · simp only [pre3, Bool.and_eq_true, decide_eq_true_eq, List.all_eq_true, List.length_append]
     exact ⟨hr, hl, by omega, by omega, by omega⟩
   · simp only [fn3]
     rw [hf]
 · exact R_else (by rw [decide_eq_true_eq]; exact hlt) (congrArg (fun z => ((x2, (z, ())) : O3)) (fl_end x3 hlt))
theorem ok17 (x1 : Int) (x2 : Keep) (x3 : List Int) (hp : pre17 (x1, (x2, (x3, ()))) = true) : Rounds pre17 mu17 fn17 (x1, (x2, (x3, ()))) (raw17 x1 x2 x3) := by
 simp only [pre17, Bool.and_eq_true, decide_eq_true_eq, List.all_eq_true] at hp
 obtain ⟨hr, hl, h1, h2, h3⟩ := hp
 unfold raw17
 by_cases hlt : x1 < (x2.2.1.length : Int)
 · have hrow := hr _ (getD_mem (show x1.toNat < x2.2.1.length by omega) zd4)
   have hf := fl_step (f := makerB) x3 h1 hlt zd4
   generalize x2.2.1.getD x1.toNat zd4 = e at *
   simp only [mkS, decide_eq_true_eq] at hrow
   have d := nums5_len (a := e.1) (b := e.2.1) (c := e.2.2.1) (d := IntKind.wrap .i64 (e.2.2.2.1 + 1)) (e := (e.2.2.2.2.1.length : Int))
   have hm := fm_len (f := markB) (c := 10) e.2.2.2.2.1 fun x hx => nums_len [x.1, x.2.1]
   have hq : pre22 (x1, ((0 : Int), (x2, (List.append x3 (nums [e.1, e.2.1, e.2.2.1, IntKind.wrap .i64 (e.2.2.2.1 + 1), (e.2.2.2.2.1.length : Int)]), (e, ()))))) = true := by
    simp only [pre22, Bool.and_eq_true, decide_eq_true_eq, List.append_eq, List.length_append]
    exact ⟨by omega, h1, hlt, by omega, by omega, by omega⟩
   refine R_if (decide_eq_true hlt) (R_if (decide_eq_true h1) (R_if (decide_eq_true hlt) (R_if (nums_pre (by simp)) (R_let (R_if (lim_ok (by omega) (by omega)) (R_if hq (R_let ?_)))))))
   simp only [fn22, Int.toNat_zero, List.drop_zero]
   rw [w64 (n := x1 + 1) (by omega) (by omega)]
   have he : List.append x3 (nums [e.1, e.2.1, e.2.2.1, IntKind.wrap .i64 (e.2.2.2.1 + 1), (e.2.2.2.2.1.length : Int)]) ++ e.2.2.2.2.1.flatMap markB = x3 ++ makerB e := by
    simp only [makerB, List.append_eq, List.append_assoc]
   rw [he]
   have hb : (makerB e).length ≤ 75 := by simp only [makerB, List.length_append]; omega
   refine ⟨?_, by simp only [mu17]; omega, ?_⟩
   · simp only [pre17, Bool.and_eq_true, decide_eq_true_eq, List.all_eq_true, List.length_append]
     exact ⟨hr, hl, by omega, by omega, by omega⟩
   · simp only [fn17]
     rw [hf]
 · exact R_else (by rw [decide_eq_true_eq]; exact hlt) (congrArg (fun z => ((x2, (z, ())) : O17)) (fl_end x3 hlt))
theorem ok27 (x1 : Int) (x2 : Keep) (x3 : List Int) (hp : pre27 (x1, (x2, (x3, ()))) = true) : Rounds pre27 mu27 fn27 (x1, (x2, (x3, ()))) (raw27 x1 x2 x3) := by
 simp only [pre27, Bool.and_eq_true, decide_eq_true_eq, List.all_eq_true] at hp
 obtain ⟨hr, hl, h1, h2, h3⟩ := hp
 unfold raw27
 by_cases hlt : x1 < (x2.2.2.1.length : Int)
 · have hrow := hr _ (getD_mem (show x1.toNat < x2.2.2.1.length by omega) zd7)
   have hf := fl_step (f := groupB) x3 h1 hlt zd7
   generalize x2.2.2.1.getD x1.toNat zd7 = e at *
   simp only [grS, Bool.and_eq_true, decide_eq_true_eq] at hrow
   have d := nums2_len (a := e.1) (b := (e.2.1.length : Int))
   have hm := fm_len (f := memB2) (c := 10) (e.2.1.zip e.2.2.1) fun x hx => nums_len [x.1, x.2]
   have ho := nums_len e.2.2.2.1
   rw [List.length_zip] at hm
   have hq : pre32 (x1, ((0 : Int), (x2, (List.append x3 (nums [e.1, (e.2.1.length : Int)]), (e, ()))))) = true := by
    simp only [pre32, Bool.and_eq_true, decide_eq_true_eq, List.append_eq, List.length_append]
    exact ⟨by omega, hrow.2.1, h1, hlt, by omega, by omega, by omega⟩
   refine R_if (decide_eq_true hlt) (R_if (decide_eq_true h1) (R_if (decide_eq_true hlt) (R_if (nums_pre (by simp)) (R_let (R_if (lim_ok (by omega) (by omega)) (R_if hq (R_let ?_)))))))
   simp only [fn32, Int.toNat_zero, List.drop_zero]
   rw [w64 (n := x1 + 1) (by omega) (by omega)]
   have he : (List.append x3 (nums [e.1, (e.2.1.length : Int)]) ++ (e.2.1.zip e.2.2.1).flatMap memB2) ++ nums e.2.2.2.1 = x3 ++ groupB e := by
    simp only [groupB, List.append_eq, List.append_assoc]
   have hb : (groupB e).length ≤ 70 := by simp only [groupB, List.length_append]; omega
   refine R_if (nums_pre (show e.2.2.2.1.length ≤ 100 by omega)) (R_let (R_if (lim_ok (by simp only [List.append_eq, List.length_append]; omega) (by omega)) ?_))
   rw [List.append_eq, he]
   refine ⟨?_, by simp only [mu27]; omega, ?_⟩
   · simp only [pre27, Bool.and_eq_true, decide_eq_true_eq, List.all_eq_true, List.length_append]
     exact ⟨hr, hl, by omega, by omega, by omega⟩
   · simp only [fn27]
     rw [hf]
 · exact R_else (by rw [decide_eq_true_eq]; exact hlt) (congrArg (fun z => ((x2, (z, ())) : O27)) (fl_end x3 hlt))
theorem ok38 (x1 : Int) (x2 : Keep) (x3 : List Int) (hp : pre38 (x1, (x2, (x3, ()))) = true) : Rounds pre38 mu38 fn38 (x1, (x2, (x3, ()))) (raw38 x1 x2 x3) := by
 simp only [pre38, Bool.and_eq_true, decide_eq_true_eq, List.all_eq_true] at hp
 obtain ⟨hr, hl, hq, h1, h2, h3⟩ := hp
 have hz : (x2.2.2.2.2.1.zip x2.2.2.2.2.2.1).length = x2.2.2.2.2.1.length := by rw [List.length_zip]; omega
 unfold raw38
 by_cases hlt : x1 < (x2.2.2.2.2.1.length : Int)
 · have ha := hr _ (getD_mem (show x1.toNat < x2.2.2.2.2.2.1.length by omega) ((0 : Int), zd6))
   have hf := fl_step (f := lastB) (xs := x2.2.2.2.2.1.zip x2.2.2.2.2.2.1) x3 h1 (by omega) ((0 : Int), ((0 : Int), zd6))
   have hn : x1.toNat < (x2.2.2.2.2.1.zip x2.2.2.2.2.2.1).length := by omega
   have he : (x2.2.2.2.2.1.zip x2.2.2.2.2.2.1).getD x1.toNat ((0 : Int), ((0 : Int), zd6)) = (x2.2.2.2.2.1.getD x1.toNat 0, x2.2.2.2.2.2.1.getD x1.toNat ((0 : Int), zd6)) := by
    rw [getD_get hn, getD_get (show x1.toNat < x2.2.2.2.2.1.length by omega), getD_get (show x1.toNat < x2.2.2.2.2.2.1.length by omega), List.getElem_zip]
   rw [he] at hf
   have hlb := lastB_len (p := (x2.2.2.2.2.1.getD x1.toNat 0, x2.2.2.2.2.2.1.getD x1.toNat ((0 : Int), zd6))) ha
   have t := ansOk_words ha
   rw [w64 (n := x1 + 1) (by omega) (by omega)]
   generalize x2.2.2.2.2.2.1.getD x1.toNat ((0 : Int), zd6) = a at *
   generalize x2.2.2.2.2.1.getD x1.toNat 0 = dn at *
   have d := nums3_len (a := dn) (b := a.1) (c := IntKind.wrap .i64 (a.2.1 + 1))
   have b := PutText_len a.2.2.1
   have c := PutText_len a.2.2.2.1
   refine R_if (decide_eq_true hlt) (R_if (decide_eq_true h1) (R_if (decide_eq_true (by omega)) (R_if (decide_eq_true h1) (R_if (decide_eq_true hlt) (R_if (nums_pre (by simp)) (R_let (R_if (lim_ok (by omega) (by omega)) (R_if (txt_pre t.1) (R_let (R_if (lim_ok (by simp only [List.append_eq, List.length_append]; omega) (by omega)) (R_if (txt_pre t.2) (R_let (R_if (lim_ok (by simp only [List.append_eq, List.length_append]; omega) (by omega)) ⟨?_, by simp only [mu38]; omega, ?_⟩)))))))))))))
   · simp only [pre38, Bool.and_eq_true, decide_eq_true_eq, List.all_eq_true, List.append_eq, List.length_append]
     refine ⟨hr, hl, hq, by omega, by omega, ?_⟩
     simp only [lastB, List.length_append] at hlb
     omega
   · simp only [fn38]
     rw [← hf]
     simp only [lastB, List.append_eq, List.append_assoc]
 · exact R_else (by rw [decide_eq_true_eq]; exact hlt) (congrArg (fun z => ((z, ()) : O38)) (fl_end x3 (by omega)))
noncomputable def pre (k : Keep) : Bool := B (∃ s, KeepQ s k)
theorem eq (x0 : Keep) (_ : wf x0) (hp : pre x0 = true) : raw x0 = some ((), (keepB x0, ())) := by
 obtain ⟨s, hk⟩ := B_iff.1 hp
 have hm := (keepQ_S hk).2
 obtain ⟨⟨h0, h1, h2, h3, h4, h5, h6⟩, k1, k2, k3, k4, k5, k6⟩ := hk
 have hs := setup_facts h0
 have a1 := PutNum_len x0.1.length
 have a2 := PutNum_len x0.2.1.length
 have a3 := PutNum_len x0.2.2.1.length
 have a4 := PutNum_len x0.2.2.2.1
 have b1 := fm_len (f := rowB) (c := 6815) x0.1 fun r hr => rowB_len (k1 r hr)
 have b2 := fm_len (f := makerB) (c := 75) x0.2.1 fun m hm => makerB_len (k5 m hm).1 (by omega)
 have b3 := fm_len (f := groupB) (c := 70) x0.2.2.1 fun g hg => groupB_len (k2 g hg) hs.2.1
 unfold raw
 refine E_let (E_if (show pre3 _ = true by simp only [pre3, Bool.and_eq_true, decide_eq_true_eq, List.all_eq_true]; exact ⟨k1, by omega, by omega, by omega, by omega⟩) (E_let ?_))
 simp only [fn3, Int.toNat_zero, List.drop_zero]
 refine E_let (E_if (lim_ok (by simp only [List.length_append]; omega) (by omega)) (E_if (show pre17 _ = true by simp only [pre17, Bool.and_eq_true, decide_eq_true_eq, List.all_eq_true, List.append_eq, List.length_append]; exact ⟨fun m hm => decide_eq_true (by obtain ⟨⟨⟨_, _, _, _, _, _, _, _, g2, _⟩, _⟩, _⟩ := k5 m hm; omega), by omega, by omega, by omega, by omega⟩) (E_let ?_)))
 simp only [fn17, Int.toNat_zero, List.drop_zero]
 refine E_let (E_if (lim_ok (by simp only [List.append_eq, List.length_append]; omega) (by omega)) (E_if (show pre27 _ = true by
  simp only [pre27, Bool.and_eq_true, decide_eq_true_eq, List.all_eq_true, List.append_eq, List.length_append]
  refine ⟨fun g hg => ?_, by omega, by omega, by omega, by omega⟩
  have g1 := groupOk_S (k2 g hg) hs.2.1
  have g2 := (groupOk_iff.1 (k2 g hg)).1
  simp only [grS, Bool.and_eq_true, decide_eq_true_eq]; omega) (E_let ?_)))
 simp only [fn27, Int.toNat_zero, List.drop_zero]
 refine E_let (E_if (lim_ok (by simp only [List.append_eq, List.length_append]; omega) (by omega)) (E_if (show pre38 _ = true by simp only [pre38, Bool.and_eq_true, decide_eq_true_eq, List.all_eq_true, List.append_eq, List.length_append]; exact ⟨k4, by omega, by omega, by omega, by omega, by omega⟩) (E_let ?_)))
 simp only [fn38, Int.toNat_zero, List.drop_zero, keepB, List.append_eq, List.append_assoc]
end spec_l7Bytes
abbrev spec_l7Bytes := keepB
def laws_big (x : List Int) : Bool := decide ((1048576 : Int) < (x.length : Int))
namespace laws_big
abbrev wf (x0 : (List Int)) : Prop := wfA [(.val zk20 .f)] (x0, ())
noncomputable def raw (x0 : (List Int)) : Option zt28 :=
 some ((), ((decide ((1048576 : Int) < ((List.length x0 : Nat) : Int))), ()))
theorem eq (x0 : List Int) (_ : wf x0) : raw x0 = some ((), (laws_big x0, ())) := rfl
end laws_big
theorem not_big {x : List Int} (h : ¬ laws_big x = true) : small x = true := by
 simp only [laws_big, decide_eq_true_eq] at h
 rw [small_iff]; omega
def skP (v : Setup × Keep) : Prop := SetupOk v.1 = true ∧ KeepP v.1 v.2
namespace spec_l6DrawRight
def pre (c : Cur) : Bool := curB c
abbrev wf (x0 : zt11) : Prop := wfA [(.ref zk31 .f)] (x0, ())
noncomputable def raw (x0 : zt11) : Option ((zt11 × Unit) × (Setup × (zt1 × Unit))) :=
 if (spec_l1DrawRight.pre x0) = true then
 letB (spec_l1DrawRight x0) fun v1 =>
 if (spec_l6DrawCmds.pre v1.1 (14 : Int)) = true then
 letB (spec_l6DrawCmds v1.1 (14 : Int)) fun v2 =>
 if (spec_KeepAll.pre v1.2 v2.2) = true then
 letB (KeepAll v1.2 v2.2) fun v3 =>
 some ((v2.1, ()), (v1.2, (v3.1, ())))
 else
 none
 else
 none
 else
 none
theorem wp (x0 : Cur) (hp : pre x0 = true) : Wp (raw x0) (fun r => dP skP (r.1.1, (r.2.1, r.2.2.1))) := by
 unfold raw
 have hp : curB x0 = true := hp
 have cp : ∀ {c : Cur}, curB c = true → spec_l6DrawCmds.pre c 14 = true := fun h => by simp only [spec_l6DrawCmds.pre, h, Bool.true_and]; decide
 refine W_if (show spec_l1DrawRight.pre x0 = true from hp) (W_fact (spec_l1DrawRight_sp hp) fun a ha => W_if (cp ha.1) (W_fact (spec_l6DrawCmds_sp (cp ha.1)) fun b hb => W_if (show small b.2 = true by have := hb.2.1; rw [small_iff]; omega) (W_let (W_some ⟨hb.1, ha.2, (keepAll_ok (l := b.2)).1 ha.2⟩))))
noncomputable def val (x0 : Cur) : Cur × (Setup × Keep) := ((got (raw x0)).1.1, ((got (raw x0)).2.1, (got (raw x0)).2.2.1))
theorem eq (x0 : Cur) (_ : wf x0) (hp : pre x0 = true) : raw x0 = some (((val x0).1, ()), ((val x0).2.1, ((val x0).2.2, ()))) := (got_eq (wp x0 hp)).1
end spec_l6DrawRight
noncomputable def spec_l6DrawRight (x0 : Cur) : Cur × (Setup × Keep) := spec_l6DrawRight.val x0
theorem spec_l6DrawRight_sp {x0 : Cur} (hp : curB x0 = true) : dP skP (spec_l6DrawRight x0) := (got_eq (spec_l6DrawRight.wp x0 hp)).2
def entP (lo hi : Int) (e : Entry) : Prop := CmdOk e.2.1 = true ∧ lo ≤ e.1 ∧ e.1 ≤ hi
def entsP (lo hi n : Int) (l : List Entry) : Prop := (l.length : Int) ≤ n ∧ ∀ e ∈ l, entP lo hi e
namespace spec_l8DrawEntries
abbrev S4 : Type := (Int × (Int × (Int × (zt11 × ((List Entry) × Unit)))))
abbrev O4 : Type := (zt11 × ((List Entry) × Unit))
def pre4 : S4 → Bool := fun (x1, x2, x3, x4, x5, _) => decide (x2 ≤ 100) && (decide (0 ≤ x3) && (curB x4 && (decide ((x5.length : Int) = x3) && (decide (0 ≤ x1) && decide (x1 + max (x2 - x3) 0 ≤ 10000)))))
def mu4 : S4 → Nat := fun (_, x2, x3, _, _, _) => (x2 - x3).toNat
def Q4 (s : S4) (o : O4) : Prop := curB o.1 = true ∧ (o.2.1.length : Int) ≤ max s.2.1 s.2.2.1 ∧ ∀ lo hi, (∀ e ∈ s.2.2.2.2.1, entP lo hi e) → lo ≤ s.1 → s.1 + (s.2.1 - s.2.2.1) ≤ hi → ∀ e ∈ o.2.1, entP lo hi e
noncomputable def raw4 (x1 : Int) (x2 : Int) (x3 : Int) (x4 : zt11) (x5 : (List Entry)) : Option ((Int × (Int × (Int × (zt11 × ((List Entry) × Unit))))) ⊕ (zt11 × ((List Entry) × Unit))) :=
 if (decide (x3 < x2)) = true then
 if (spec_l1Below.pre x4 (2 : Int)) = true then
 letB (spec_l1Below x4 (2 : Int)) fun v1 =>
 if (spec_l2DrawRight.pre v1.1) = true then
 letB (spec_l2DrawRight v1.1) fun v2 =>
 if (decide (List.length x5 + List.length (((IntKind.wrap .i64 (x1 + v1.2)), (v2.2, ())) :: ([] : List Entry)) ≤ lim)) = true then
 some (.inl ((IntKind.wrap .i64 (x1 + v1.2)), (x2, ((IntKind.wrap .i64 (x3 + (1 : Int))), (v2.1, ((List.append x5 (((IntKind.wrap .i64 (x1 + v1.2)), (v2.2, ())) :: ([] : List Entry))), ()))))))
 else
 none
 else
 none
 else
 none
 else
 some (.inr (x4, (x5, ())))
theorem wp4 : ∀ s, pre4 s = true → Wp ((fun (x : S4) => raw4 x.1 x.2.1 x.2.2.1 x.2.2.2.1 x.2.2.2.2.1) s) (Step pre4 mu4 Q4 s) := by
 rintro ⟨x1, x2, x3, x4, x5, ⟨⟩⟩ hp
 simp only [pre4, Bool.and_eq_true, decide_eq_true_eq] at hp
 obtain ⟨h1, h2, h3, h4, h5, h6⟩ := hp
 show Wp (raw4 x1 x2 x3 x4 x5) _
 unfold raw4
 refine W_ite (fun h => ?_) fun h => W_some ⟨h3, by show (x5.length : Int) ≤ max x2 x3; omega, fun lo hi he _ _ => he⟩
 rw [decide_eq_true_eq] at h
 refine W_if (show spec_l1Below.pre x4 _ = true from h3) (W_fact (spec_l1Below_sp h3) fun a ha => W_if (show spec_l2DrawRight.pre a.1 = true from ha.1) (W_fact (spec_l2DrawRight_sp ha.1) fun b hb => W_if (by simp only [decide_eq_true_eq, List.length_cons, List.length_nil, lim]; omega) (W_some ?_)))
 have a1 := ha.2.1; have a2 := ha.2.2 (by decide)
 rw [w64 (n := x3 + 1) (by omega) (by omega), w64 (n := x1 + a.2) (by omega) (by omega)]
 refine ⟨?_, ?_, ?_⟩
 · simp only [pre4, Bool.and_eq_true, decide_eq_true_eq, List.append_eq, List.length_append, List.length_cons, List.length_nil]
   exact ⟨h1, by omega, hb.1, by omega, by omega, by omega⟩
 · simp only [mu4]; omega
 · rintro ⟨o1, o2, ⟨⟩⟩ ⟨q1, q2, q3⟩
   have q2 : (o2.length : Int) ≤ max x2 (x3 + 1) := q2
   refine ⟨q1, by show (o2.length : Int) ≤ max x2 x3; omega, fun lo hi he hlo hhi => q3 lo hi ?_ (by show lo ≤ x1 + a.2; have : lo ≤ x1 := hlo; omega) (by show x1 + a.2 + (x2 - (x3 + 1)) ≤ hi; have : x1 + (x2 - x3) ≤ hi := hhi; omega)⟩
   intro e he'
   have hlo : lo ≤ x1 := hlo
   have hhi : x1 + (x2 - x3) ≤ hi := hhi
   rcases List.mem_append.1 he' with he' | he'
   · exact he e he'
   · rw [List.mem_singleton] at he'
     subst he'
     exact ⟨hb.2.1, by show lo ≤ x1 + a.2; omega, by show x1 + a.2 ≤ hi; omega⟩
noncomputable def fn4 : S4 → O4 := runF (fun (x : S4) => raw4 x.1 x.2.1 x.2.2.1 x.2.2.2.1 x.2.2.2.2.1) mu4
theorem ok4 (x1 x2 x3 : Int) (x4 : Cur) (x5 : List Entry) (hp : pre4 (x1, (x2, (x3, (x4, (x5, ()))))) = true) : Rounds pre4 mu4 fn4 (x1, (x2, (x3, (x4, (x5, ()))))) (raw4 x1 x2 x3 x4 x5) := runF_ok wp4 hp
def pre (c : Cur) (t n : Int) : Bool := curB c && (decide (0 ≤ t) && (decide (t ≤ 1000) && (decide (0 ≤ n) && decide (n ≤ 50))))
abbrev wf (x0 : zt11) (x1 : Int) (x2 : Int) : Prop := wfA [(.ref zk31 .f), (.val (.int .i64) .f), (.val (.int .i64) .f)] (x0, (x1, (x2, ())))
noncomputable def raw (x0 : zt11) (x1 : Int) (x2 : Int) : Option ((zt11 × Unit) × ((List Entry) × Unit)) :=
 if (spec_l1Below.pre x0 (IntKind.wrap .i64 (x2 + (1 : Int)))) = true then
 letB (spec_l1Below x0 (IntKind.wrap .i64 (x2 + (1 : Int)))) fun v1 =>
 if (spec_l8DrawEntries.pre4 (x1, (v1.2, ((0 : Int), (v1.1, (([] : List Entry), ())))))) = true then
 letB (spec_l8DrawEntries.fn4 (x1, (v1.2, ((0 : Int), (v1.1, (([] : List Entry), ())))))) fun v2 =>
 some ((v2.1, ()), v2.2)
 else
 none
 else
 none
theorem wp (x0 : Cur) (x1 x2 : Int) (hp : pre x0 x1 x2 = true) : Wp (raw x0 x1 x2) (fun r => dP (entsP x1 (x1 + x2) x2) (r.1.1, r.2.1)) := by
 unfold raw
 simp only [pre, Bool.and_eq_true, decide_eq_true_eq] at hp
 obtain ⟨h1, h2, h3, h4, h5⟩ := hp
 rw [w64 (n := x2 + 1) (by omega) (by omega)]
 refine W_if (show spec_l1Below.pre x0 _ = true from h1) (W_fact (spec_l1Below_sp h1) fun v hv => ?_)
 have v1 := hv.2.1; have v2 := hv.2.2 (by omega)
 have hq : pre4 (x1, (v.2, ((0 : Int), (v.1, (([] : List Entry), ()))))) = true := by
  simp only [pre4, Bool.and_eq_true, decide_eq_true_eq, List.length_nil]
  exact ⟨by omega, by omega, hv.1, rfl, by omega, by omega⟩
 refine W_if hq (W_fact (runF_q wp4 hq : Q4 _ (fn4 _)) fun o ho => W_some ⟨ho.1, ?_, ho.2.2 x1 (x1 + x2) (fun e he => absurd he List.not_mem_nil) (Int.le_refl _) (by show x1 + (v.2 - 0) ≤ x1 + x2; omega)⟩)
 have : (o.2.1.length : Int) ≤ max v.2 0 := ho.2.1
 show (o.2.1.length : Int) ≤ x2
 omega
noncomputable def val (x0 : Cur) (x1 x2 : Int) : Cur × List Entry := ((got (raw x0 x1 x2)).1.1, (got (raw x0 x1 x2)).2.1)
theorem eq (x0 : Cur) (x1 x2 : Int) (_ : wf x0 x1 x2) (hp : pre x0 x1 x2 = true) : raw x0 x1 x2 = some (((val x0 x1 x2).1, ()), ((val x0 x1 x2).2, ())) := (got_eq (wp x0 x1 x2 hp)).1
end spec_l8DrawEntries
noncomputable def spec_l8DrawEntries (x0 : Cur) (x1 x2 : Int) : Cur × List Entry := spec_l8DrawEntries.val x0 x1 x2
theorem spec_l8DrawEntries_sp {x0 : Cur} {x1 x2 : Int} (hp : spec_l8DrawEntries.pre x0 x1 x2 = true) : dP (entsP x1 (x1 + x2) x2) (spec_l8DrawEntries x0 x1 x2) := (got_eq (spec_l8DrawEntries.wp x0 x1 x2 hp)).2
theorem ents_pre {c : Cur} {t n : Int} (h : curB c = true) (h1 : 0 ≤ t) (h2 : t ≤ 1000) (h3 : 0 ≤ n) (h4 : n ≤ 50) : spec_l8DrawEntries.pre c t n = true := by
 simp only [spec_l8DrawEntries.pre, Bool.and_eq_true, decide_eq_true_eq]; exact ⟨h, h1, h2, h3, h4⟩
def noteP (r : Note) : Prop := r.2.2.2.2.1.length ≤ 10 ∧ r.2.2.2.2.2.1.length ≤ 30000
namespace spec_l9DrawRight
def pre (c : Cur) : Bool := curB c
abbrev wf (x0 : zt11) : Prop := wfA [(.ref zk31 .f)] (x0, ())
noncomputable def raw (x0 : zt11) : Option ((zt11 × Unit) × (zt18 × Unit)) :=
 if (spec_l1Below.pre x0 (4 : Int)) = true then
 letB (spec_l1Below x0 (4 : Int)) fun v1 =>
 if (decide (v1.2 = (0 : Int))) = true then
 if (spec_l1Below.pre v1.1 (6 : Int)) = true then
 letB (spec_l1Below v1.1 (6 : Int)) fun v2 =>
 if (spec_l1Below.pre v2.1 (4 : Int)) = true then
 letB (spec_l1Below v2.1 (4 : Int)) fun v3 =>
 some ((v3.1, ()), (((1 : Int), (v2.2, ((IntKind.wrap .i64 (v3.2 - (1 : Int))), ((0 : Int), (([] : List Entry), (([] : List UInt8), ())))))), ()))
 else
 none
 else
 none
 else
 if (decide (v1.2 = (1 : Int))) = true then
 if (spec_l6DrawRight.pre v1.1) = true then
 letB (spec_l6DrawRight v1.1) fun v4 =>
 if (spec_l1Below.pre v4.1 (3 : Int)) = true then
 letB (spec_l1Below v4.1 (3 : Int)) fun v5 =>
 if (spec_l1Below.pre v5.1 (5 : Int)) = true then
 if (spec_l7Bytes.pre v4.2.2) = true then
 letB (spec_l1Below v5.1 (5 : Int)) fun v6 =>
 letB (keepB v4.2.2) fun v7 =>
 some ((v6.1, ()), (((3 : Int), (v5.2, ((0 : Int), (v6.2, (([] : List Entry), ((strOf v7), ())))))), ()))
 else
 none
 else
 none
 else
 none
 else
 none
 else
 if (spec_l1Below.pre v1.1 (2 : Int)) = true then
 letB (spec_l1Below v1.1 (2 : Int)) fun v8 =>
 if (spec_l1Below.pre v8.1 (3 : Int)) = true then
 letB (spec_l1Below v8.1 (3 : Int)) fun v9 =>
 if (spec_l8DrawEntries.pre v9.1 (1 : Int) (4 : Int)) = true then
 letB (spec_l8DrawEntries v9.1 (1 : Int) (4 : Int)) fun v10 =>
 some ((v10.1, ()), (((2 : Int), (v8.2, ((0 : Int), (v9.2, (v10.2, (([] : List UInt8), ())))))), ()))
 else
 none
 else
 none
 else
 none
 else
 none
theorem wp (x0 : Cur) (hp : pre x0 = true) : Wp (raw x0) (fun r => dP noteP (r.1.1, r.2.1)) := by
 unfold raw
 have hp : curB x0 = true := hp
 have p1 : ∀ {c : Cur} {n : Int}, curB c = true → spec_l1Below.pre c n = true := fun h => h
 refine W_if (p1 hp) (W_fact (spec_l1Below_sp hp) fun a ha => W_ite (fun _ => ?_) fun _ => W_ite (fun _ => ?_) fun _ => ?_)
 · exact W_if (p1 ha.1) (W_fact (spec_l1Below_sp ha.1) fun b hb => W_if (p1 hb.1) (W_fact (spec_l1Below_sp hb.1) fun c hc => W_some ⟨hc.1, Nat.zero_le _, Nat.zero_le _⟩))
 · refine W_if (show spec_l6DrawRight.pre a.1 = true from ha.1) (W_fact (spec_l6DrawRight_sp ha.1) fun b hb => ?_)
   have hQ := keepP_Q hb.2.2
   have hl := keepB_len hQ
   refine W_if (p1 hb.1) ?_
   have h3 := spec_l1Below_sp (x1 := 3) hb.1
   refine W_if (p1 h3.1) (W_if (show spec_l7Bytes.pre b.2.2 = true from B_iff.2 ⟨_, hQ⟩) (W_let ?_))
   have h5 := spec_l1Below_sp (x1 := 5) h3.1
   exact W_let (W_let (W_some ⟨h5.1, Nat.zero_le _, by show (strOf _).length ≤ 30000; rw [strOf, List.length_map]; exact hl⟩))
 · refine W_if (p1 ha.1) (W_fact (spec_l1Below_sp ha.1) fun b hb => W_if (p1 hb.1) (W_fact (spec_l1Below_sp hb.1) fun c hc => W_if (ents_pre hc.1 (by decide) (by decide) (by decide) (by decide)) (W_fact (spec_l8DrawEntries_sp (ents_pre hc.1 (by decide) (by decide) (by decide) (by decide))) fun d hd => W_some ⟨hd.1, ?_, Nat.zero_le _⟩)))
   have := hd.2.1
   show d.2.length ≤ 10
   omega
noncomputable def val (x0 : Cur) : Cur × Note := ((got (raw x0)).1.1, (got (raw x0)).2.1)
theorem eq (x0 : Cur) (_ : wf x0) (hp : pre x0 = true) : raw x0 = some (((val x0).1, ()), ((val x0).2, ())) := (got_eq (wp x0 hp)).1
end spec_l9DrawRight
noncomputable def spec_l9DrawRight (x0 : Cur) : Cur × Note := spec_l9DrawRight.val x0
theorem spec_l9DrawRight_sp {x0 : Cur} (hp : curB x0 = true) : dP noteP (spec_l9DrawRight x0) := (got_eq (spec_l9DrawRight.wp x0 hp)).2
theorem NoteBytes_len (r : Note) : (NoteBytes r).length ≤ 41000 := by
 unfold NoteBytes
 split
 · rename_i h
   have := body_len (NoteOk_len h)
   have := PutNum_len (spec_l9Body r).length
   simp only [List.length_append, sum4, List.length_cons, List.length_nil]; omega
 · exact Nat.zero_le _
def bytesP (n : Nat) (l : List Int) : Prop := l.length ≤ n
namespace spec_l9DrawBytes
abbrev S3 : Type := (Int × (zt11 × zt17))
abbrev O3 : Type := (zt11 × zt17)
def pre3 : S3 → Bool := fun (x1, x2, x3, _) => curB x2 && (decide (0 ≤ x1) && (decide (x1 ≤ 3) && decide ((x3.length : Int) ≤ 41000 * x1)))
def mu3 : S3 → Nat := fun (x1, _) => (3 - x1).toNat
def Q3 (_ : S3) (o : O3) : Prop := curB o.1 = true ∧ o.2.1.length ≤ 123000
noncomputable def raw3 (x1 : Int) (x2 : zt11) (x3 : (List Int)) : Option ((Int × (zt11 × zt17)) ⊕ (zt11 × zt17)) :=
 if (spec_l1Below.pre x2 (4 : Int)) = true then
 letB (spec_l1Below x2 (4 : Int)) fun v1 =>
 if (decide (x1 < v1.2)) = true then
 if (spec_l9DrawRight.pre v1.1) = true then
 letB (spec_l9DrawRight v1.1) fun v2 =>
 letB (NoteBytes v2.2) fun v3 =>
 if (decide (List.length x3 + List.length v3 ≤ lim)) = true then
 some (.inl ((IntKind.wrap .i64 (x1 + (1 : Int))), (v2.1, ((List.append x3 v3), ()))))
 else
 none
 else
 none
 else
 some (.inr (v1.1, (x3, ())))
 else
 none
theorem wp3 : ∀ s, pre3 s = true → Wp ((fun (x : S3) => raw3 x.1 x.2.1 x.2.2.1) s) (Step pre3 mu3 Q3 s) := by
 rintro ⟨x1, x2, x3, ⟨⟩⟩ hp
 simp only [pre3, Bool.and_eq_true, decide_eq_true_eq] at hp
 obtain ⟨h1, h2, h3, h4⟩ := hp
 show Wp (raw3 x1 x2 x3) _
 unfold raw3
 refine W_if (show spec_l1Below.pre x2 _ = true from h1) (W_fact (spec_l1Below_sp h1) fun a ha => W_ite (fun h => ?_) fun _ => W_some ⟨ha.1, by show x3.length ≤ 123000; omega⟩)
 rw [decide_eq_true_eq] at h
 have a2 := ha.2.2 (by decide)
 rw [w64 (n := x1 + 1) (by omega) (by omega)]
 refine W_if (show spec_l9DrawRight.pre a.1 = true from ha.1) (W_fact (spec_l9DrawRight_sp ha.1) fun b hb => W_let ?_)
 have hl := NoteBytes_len b.2
 refine W_if (by simp only [decide_eq_true_eq, lim]; omega) (W_some ⟨?_, by simp only [mu3]; omega, fun o ho => ho⟩)
 simp only [pre3, Bool.and_eq_true, decide_eq_true_eq, List.append_eq, List.length_append]
 exact ⟨hb.1, by omega, by omega, by omega⟩
noncomputable def fn3 : S3 → O3 := runF (fun (x : S3) => raw3 x.1 x.2.1 x.2.2.1) mu3
theorem ok3 (x1 : Int) (x2 : Cur) (x3 : List Int) (hp : pre3 (x1, (x2, (x3, ()))) = true) : Rounds pre3 mu3 fn3 (x1, (x2, (x3, ()))) (raw3 x1 x2 x3) := runF_ok wp3 hp
def pre (c : Cur) : Bool := curB c
abbrev wf (x0 : zt11) : Prop := wfA [(.ref zk31 .f)] (x0, ())
noncomputable def raw (x0 : zt11) : Option ((zt11 × Unit) × zt17) :=
 if (spec_l9DrawBytes.pre3 ((0 : Int), (x0, (([] : List Int), ())))) = true then
 letB (spec_l9DrawBytes.fn3 ((0 : Int), (x0, (([] : List Int), ())))) fun v1 =>
 some ((v1.1, ()), v1.2)
 else
 none
theorem wp (x0 : Cur) (hp : pre x0 = true) : Wp (raw x0) (fun r => dP (bytesP 123000) (r.1.1, r.2.1)) := by
 unfold raw
 have hp : curB x0 = true := hp
 have hq : pre3 ((0 : Int), (x0, (([] : List Int), ()))) = true := by
  simp only [pre3, Bool.and_eq_true, decide_eq_true_eq, List.length_nil]; exact ⟨hp, by omega, by omega, by omega⟩
 exact W_if hq (W_fact (runF_q wp3 hq : Q3 _ (fn3 _)) fun o ho => W_some ⟨ho.1, ho.2⟩)
noncomputable def val (x0 : Cur) : Cur × List Int := ((got (raw x0)).1.1, (got (raw x0)).2.1)
theorem eq (x0 : Cur) (_ : wf x0) (hp : pre x0 = true) : raw x0 = some (((val x0).1, ()), ((val x0).2, ())) := (got_eq (wp x0 hp)).1
end spec_l9DrawBytes
noncomputable def spec_l9DrawBytes (x0 : Cur) : Cur × List Int := spec_l9DrawBytes.val x0
theorem spec_l9DrawBytes_sp {x0 : Cur} (hp : curB x0 = true) : dP (bytesP 123000) (spec_l9DrawBytes x0) := (got_eq (spec_l9DrawBytes.wp x0 hp)).2
def diskP (d : Disk) : Prop := d.1.length ≤ 200000
namespace spec_l10Draw
def pre (c : Cur) : Bool := curB c
abbrev wf (x0 : zt11) : Prop := wfA [(.ref zk31 .f)] (x0, ())
noncomputable def raw (x0 : zt11) : Option ((zt11 × Unit) × (Disk × Unit)) :=
 if (spec_l9DrawBytes.pre x0) = true then
 letB (spec_l9DrawBytes x0) fun v1 =>
 if (spec_l1Below.pre v1.1 (IntKind.wrap .i64 (((List.length v1.2 : Nat) : Int) + (1 : Int)))) = true then
 letB (spec_l1Below v1.1 (IntKind.wrap .i64 (((List.length v1.2 : Nat) : Int) + (1 : Int)))) fun v2 =>
 if (spec_l1Below.pre v2.1 (14 : Int)) = true then
 letB (spec_l1Below v2.1 (14 : Int)) fun v3 =>
 if (decide (v3.2 = (0 : Int))) = true then
 if (spec_l1PickInt.pre v3.1 ((-1 : Int) :: ((IntKind.wrap .i64 (((List.length v1.2 : Nat) : Int) + (1 : Int))) :: ([] : List Int)))) = true then
 letB (spec_l1PickInt v3.1 ((-1 : Int) :: ((IntKind.wrap .i64 (((List.length v1.2 : Nat) : Int) + (1 : Int))) :: ([] : List Int)))) fun v4 =>
 some ((v4.1, ()), ((v1.2, (v4.2, ())), ()))
 else
 none
 else
 if (decide (v3.2 = (1 : Int))) = true then
 if (spec_l1Below.pre v3.1 (2 : Int)) = true then
 letB (spec_l1Below v3.1 (2 : Int)) fun v5 =>
 if (decide ((0 : Int) ≤ (IntKind.wrap .i64 ((80000 : Int) + v5.2)))) = true then
 if (decide ((IntKind.wrap .i64 ((80000 : Int) + v5.2)) ≤ (IntKind.wrap .i64 ((80000 : Int) + v5.2)))) = true then
 if (decide ((IntKind.wrap .i64 ((80000 : Int) + v5.2)) ≤ (4294967296 : Int))) = true then
 some ((v5.1, ()), (((List.replicate (Int.toNat (IntKind.wrap .i64 ((80000 : Int) + v5.2))) (0 : Int)), (v2.2, ())), ()))
 else
 none
 else
 none
 else
 none
 else
 none
 else
 some ((v3.1, ()), ((v1.2, (v2.2, ())), ()))
 else
 none
 else
 none
 else
 none
theorem wp (x0 : Cur) (hp : pre x0 = true) : Wp (raw x0) (fun r => dP diskP (r.1.1, r.2.1)) := by
 unfold raw
 have hp : curB x0 = true := hp
 have p1 : ∀ {c : Cur} {n : Int}, curB c = true → spec_l1Below.pre c n = true := fun h => h
 refine W_if (show spec_l9DrawBytes.pre x0 = true from hp) (W_fact (spec_l9DrawBytes_sp hp) fun a ha => ?_)
 have hl : a.2.length ≤ 123000 := ha.2
 refine W_if (p1 ha.1) (W_fact (spec_l1Below_sp ha.1) fun b hb => W_if (p1 hb.1) (W_fact (spec_l1Below_sp hb.1) fun c hc => W_ite (fun _ => ?_) fun _ => W_ite (fun _ => ?_) fun _ => W_some ⟨hc.1, by show a.2.length ≤ 200000; omega⟩))
 · exact W_if (pick_pre hc.1 (by show 0 < 2; decide)) (W_fact (spec_l1PickInt_sp (pick_pre hc.1 (by show 0 < 2; decide))) fun d hd => W_some ⟨hd.1, by show a.2.length ≤ 200000; omega⟩)
 · refine W_if (p1 hc.1) (W_fact (spec_l1Below_sp hc.1) fun d hd => ?_)
   have d1 := hd.2.1; have d2 := hd.2.2 (by decide)
   rw [w64 (n := 80000 + d.2) (by omega) (by omega)]
   exact W_if (decide_eq_true (by omega)) (W_if (decide_eq_true (by omega)) (W_if (decide_eq_true (by omega)) (W_some ⟨hd.1, by show (List.replicate _ _).length ≤ 200000; rw [List.length_replicate]; omega⟩)))
noncomputable def val (x0 : Cur) : Cur × Disk := ((got (raw x0)).1.1, (got (raw x0)).2.1)
theorem eq (x0 : Cur) (_ : wf x0) (hp : pre x0 = true) : raw x0 = some (((val x0).1, ()), ((val x0).2, ())) := (got_eq (wp x0 hp)).1
end spec_l10Draw
noncomputable def spec_l10Draw (x0 : Cur) : Cur × Disk := spec_l10Draw.val x0
theorem spec_l10Draw_sp {x0 : Cur} (hp : curB x0 = true) : dP diskP (spec_l10Draw x0) := (got_eq (spec_l10Draw.wp x0 hp)).2
namespace spec_DrawFall
def pre (x : List Int) : Bool := small x
abbrev wf (x0 : (List Int)) : Prop := wfA [(.val zk20 .f)] (x0, ())
noncomputable def raw (x0 : (List Int)) : Option (Unit × (Disk × (Int × Unit))) :=
 if (spec_l1New.pre x0) = true then
 letB (spec_l1New x0) fun v1 =>
 if (spec_l10Draw.pre v1) = true then
 letB (spec_l10Draw v1) fun v2 =>
 if (spec_l1PickInt.pre v2.1 ((0 : Int) :: ((1 : Int) :: ((5 : Int) :: ((30 : Int) :: ((99999 : Int) :: ((-1 : Int) :: ((9223372036854775807 : Int) :: ((-9223372036854775808 : Int) :: ([] : List Int)))))))))) = true then
 letB (spec_l1PickInt v2.1 ((0 : Int) :: ((1 : Int) :: ((5 : Int) :: ((30 : Int) :: ((99999 : Int) :: ((-1 : Int) :: ((9223372036854775807 : Int) :: ((-9223372036854775808 : Int) :: ([] : List Int)))))))))) fun v3 =>
 some ((), (v2.2, (v3.2, ())))
 else
 none
 else
 none
 else
 none
theorem wp (x0 : List Int) (hp : pre x0 = true) : Wp (raw x0) (fun r => diskP r.2.1) := by
 unfold raw
 exact W_if (show spec_l1New.pre x0 = true from hp) (W_fact (P := fun c : Cur => curB c = true) (spec_l1New_sp hp) fun a ha => W_if (show spec_l10Draw.pre a = true from ha) (W_fact (spec_l10Draw_sp ha) fun b hb => W_if (pick_pre hb.1 (by decide)) (W_fact (spec_l1PickInt_sp (pick_pre hb.1 (by decide))) fun c hc => W_some hb.2)))
noncomputable def val (x0 : List Int) : Disk × Int := ((got (raw x0)).2.1, (got (raw x0)).2.2.1)
theorem eq (x0 : List Int) (_ : wf x0) (hp : pre x0 = true) : raw x0 = some ((), ((val x0).1, ((val x0).2, ()))) := (got_eq (wp x0 hp)).1
end spec_DrawFall
noncomputable def spec_DrawFall (x0 : List Int) : Disk × Int := spec_DrawFall.val x0
theorem spec_DrawFall_sp {x0 : List Int} (hp : small x0 = true) : diskP (spec_DrawFall x0).1 := (got_eq (spec_DrawFall.wp x0 hp)).2
namespace spec_DrawAppend
def pre (x : List Int) : Bool := small x
abbrev wf (x0 : (List Int)) : Prop := wfA [(.val zk20 .f)] (x0, ())
noncomputable def raw (x0 : (List Int)) : Option (Unit × (Disk × zt17)) :=
 if (spec_l1New.pre x0) = true then
 letB (spec_l1New x0) fun v1 =>
 if (spec_l10Draw.pre v1) = true then
 letB (spec_l10Draw v1) fun v2 =>
 if (spec_l9DrawBytes.pre v2.1) = true then
 letB (spec_l9DrawBytes v2.1) fun v3 =>
 some ((), (v2.2, (v3.2, ())))
 else
 none
 else
 none
 else
 none
theorem wp (x0 : List Int) (hp : pre x0 = true) : Wp (raw x0) (fun r => diskP r.2.1 ∧ bytesP 123000 r.2.2.1) := by
 unfold raw
 exact W_if (show spec_l1New.pre x0 = true from hp) (W_fact (P := fun c : Cur => curB c = true) (spec_l1New_sp hp) fun a ha => W_if (show spec_l10Draw.pre a = true from ha) (W_fact (spec_l10Draw_sp ha) fun b hb => W_if (show spec_l9DrawBytes.pre b.1 = true from hb.1) (W_fact (spec_l9DrawBytes_sp hb.1) fun c hc => W_some ⟨hb.2, hc.2⟩)))
noncomputable def val (x0 : List Int) : Disk × List Int := ((got (raw x0)).2.1, (got (raw x0)).2.2.1)
theorem eq (x0 : List Int) (_ : wf x0) (hp : pre x0 = true) : raw x0 = some ((), ((val x0).1, ((val x0).2, ()))) := (got_eq (wp x0 hp)).1
end spec_DrawAppend
noncomputable def spec_DrawAppend (x0 : List Int) : Disk × List Int := spec_DrawAppend.val x0
theorem spec_DrawAppend_sp {x0 : List Int} (hp : small x0 = true) : diskP (spec_DrawAppend x0).1 ∧ bytesP 123000 (spec_DrawAppend x0).2 := (got_eq (spec_DrawAppend.wp x0 hp)).2
namespace spec_DrawSync
def pre (x : List Int) : Bool := small x
abbrev wf (x0 : (List Int)) : Prop := wfA [(.val zk20 .f)] (x0, ())
noncomputable def raw (x0 : (List Int)) : Option (Unit × (Disk × Unit)) :=
 if (spec_l1New.pre x0) = true then
 letB (spec_l1New x0) fun v1 =>
 if (spec_l10Draw.pre v1) = true then
 letB (spec_l10Draw v1) fun v2 =>
 some ((), (v2.2, ()))
 else
 none
 else
 none
theorem wp (x0 : List Int) (hp : pre x0 = true) : Wp (raw x0) (fun r => diskP r.2.1) := by
 unfold raw
 exact W_if (show spec_l1New.pre x0 = true from hp) (W_fact (P := fun c : Cur => curB c = true) (spec_l1New_sp hp) fun a ha => W_if (show spec_l10Draw.pre a = true from ha) (W_fact (spec_l10Draw_sp ha) fun b hb => W_some hb.2))
noncomputable def val (x0 : List Int) : Disk := (got (raw x0)).2.1
theorem eq (x0 : List Int) (_ : wf x0) (hp : pre x0 = true) : raw x0 = some ((), (val x0, ())) := (got_eq (wp x0 hp)).1
end spec_DrawSync
noncomputable def spec_DrawSync (x0 : List Int) : Disk := spec_DrawSync.val x0
theorem spec_DrawSync_sp {x0 : List Int} (hp : small x0 = true) : diskP (spec_DrawSync x0) := (got_eq (spec_DrawSync.wp x0 hp)).2
namespace spec_DrawDiskOk
def pre (x : List Int) : Bool := small x
abbrev wf (x0 : (List Int)) : Prop := wfA [(.val zk20 .f)] (x0, ())
noncomputable def raw (x0 : (List Int)) : Option (Unit × (Disk × Unit)) :=
 if (spec_l1New.pre x0) = true then
 letB (spec_l1New x0) fun v1 =>
 if (spec_l10Draw.pre v1) = true then
 letB (spec_l10Draw v1) fun v2 =>
 some ((), (v2.2, ()))
 else
 none
 else
 none
theorem wp (x0 : List Int) (hp : pre x0 = true) : Wp (raw x0) (fun r => diskP r.2.1) := by
 unfold raw
 exact W_if (show spec_l1New.pre x0 = true from hp) (W_fact (P := fun c : Cur => curB c = true) (spec_l1New_sp hp) fun a ha => W_if (show spec_l10Draw.pre a = true from ha) (W_fact (spec_l10Draw_sp ha) fun b hb => W_some hb.2))
noncomputable def val (x0 : List Int) : Disk := (got (raw x0)).2.1
theorem eq (x0 : List Int) (_ : wf x0) (hp : pre x0 = true) : raw x0 = some ((), (val x0, ())) := (got_eq (wp x0 hp)).1
end spec_DrawDiskOk
noncomputable def spec_DrawDiskOk (x0 : List Int) : Disk := spec_DrawDiskOk.val x0
theorem diskOk_facts {d : Disk} (h : DiskOk d = true) : d.1.length ≤ 80000 ∧ 0 ≤ d.2.1 ∧ d.2.1 ≤ (d.1.length : Int) := by
 simp only [DiskOk, impl_within, Bool.and_eq_true, decide_eq_true_eq] at h
 omega
def fallN (d : Disk) (keep : Int) : Int := d.2.1 + maxI 0 (minI keep ((d.1.length : Int) - d.2.1))
def Fall (d : Disk) (keep : Int) : Disk := cond (DiskOk d) (d.1.take (fallN d keep).toNat, (fallN d keep, ())) d
theorem fallN_ok {d : Disk} {keep : Int} (h : DiskOk d = true) : d.2.1 ≤ fallN d keep ∧ fallN d keep ≤ (d.1.length : Int) ∧ 0 ≤ fallN d keep := by
 have := diskOk_facts h
 unfold fallN maxI minI
 split <;> split <;> omega
def dskS (d : Disk) : Bool := decide (d.1.length ≤ 1000000)
theorem dskS_of {d : Disk} (h : diskP d) : dskS d = true := by
 have h : d.1.length ≤ 200000 := h
 simp only [dskS, decide_eq_true_eq]; omega
theorem dskS_small {d : Disk} (h : dskS d = true) : small d.1 = true := by
 simp only [dskS, decide_eq_true_eq] at h
 rw [small_iff]; omega
namespace spec_Fall
def pre (d : Disk) (_ : Int) : Bool := dskS d
abbrev wf (x0 : Disk) (x1 : Int) : Prop := wfA [(.val zk25 .f), (.val (.int .i64) .f)] (x0, (x1, ()))
noncomputable def raw (x0 : Disk) (x1 : Int) : Option (Unit × (Disk × Unit)) :=
 if (spec_DiskOk.pre x0) = true then
 letB (DiskOk x0) fun v1 =>
 if (!v1) = true then
 if (spec_l10Copy.pre x0) = true then
 letB (spec_l10Copy x0) fun v2 =>
 some ((), (v2, ()))
 else
 none
 else
 if (decide ((0 : Int) ≤ (0 : Int))) = true then
 letB (minI x1 (IntKind.wrap .i64 (((List.length x0.1 : Nat) : Int) - x0.2.1))) fun v3 =>
 letB (maxI (0 : Int) v3) fun v4 =>
 if (decide ((0 : Int) ≤ (IntKind.wrap .i64 (x0.2.1 + v4)))) = true then
 if (decide ((IntKind.wrap .i64 (x0.2.1 + v4)) ≤ ((List.length x0.1 : Nat) : Int))) = true then
 if (decide (List.length ([] : List Int) + List.length (dropTake (Int.toNat (0 : Int)) (Int.toNat (IntKind.wrap .i64 (x0.2.1 + v4))) x0.1) ≤ lim)) = true then
 some ((), (((List.append ([] : List Int) (dropTake (Int.toNat (0 : Int)) (Int.toNat (IntKind.wrap .i64 (x0.2.1 + v4))) x0.1)), ((IntKind.wrap .i64 (x0.2.1 + v4)), ())), ()))
 else
 none
 else
 none
 else
 none
 else
 none
 else
 none
theorem eq (x0 : Disk) (x1 : Int) (_ : wf x0 x1) (hp : pre x0 x1 = true) : raw x0 x1 = some ((), (Fall x0 x1, ())) := by
 have hs := dskS_small (show dskS x0 = true from hp)
 unfold raw Fall
 refine E_if (show spec_DiskOk.pre x0 = true from rfl) (E_let ?_)
 cases hd : DiskOk x0
 · exact E_if rfl (E_if (show spec_l10Copy.pre x0 = true from hs) rfl)
 have hf := diskOk_facts hd
 have hn := fallN_ok (keep := x1) hd
 rw [w64 (n := (x0.1.length : Int) - x0.2.1) (by omega) (by omega)]
 refine E_else (by decide) (E_if (by decide) (E_let (E_let ?_)))
 show (if decide (0 ≤ IntKind.wrap .i64 (fallN x0 x1)) = true then if decide (IntKind.wrap .i64 (fallN x0 x1) ≤ _) = true then if _ then some ((), ((List.append ([] : List Int) (dropTake (Int.toNat 0) (IntKind.wrap .i64 (fallN x0 x1)).toNat x0.1), (IntKind.wrap .i64 (fallN x0 x1), ())), ())) else none else none else none) = _
 rw [w64 (n := fallN x0 x1) (by omega) (by omega)]
 refine E_if (decide_eq_true hn.2.2) (E_if (decide_eq_true hn.2.1) (E_if ?_ rfl))
 simp only [decide_eq_true_eq, List.length_nil, dropTake, List.length_take, List.length_drop, lim]; omega
end spec_Fall
abbrev spec_Fall := Fall
namespace impl_Fall
def pre (d : Disk) (_ : Int) : Bool := dskS d
abbrev wf (x0 : Disk) (x1 : Int) : Prop := wfA [(.val zk25 .f), (.val (.int .i64) .f)] (x0, (x1, ()))
noncomputable def raw (x0 : Disk) (x1 : Int) : Option (Unit × (Disk × Unit)) :=
 if (impl_copyDisk.pre x0) = true then
 if (impl_DiskOk.pre x0) = true then
 letB (DiskOk x0) fun v1 =>
 if (!v1) = true then
 letB (impl_copyDisk x0) fun v2 =>
 some ((), (v2, ()))
 else
 if (decide ((0 : Int) ≤ (0 : Int))) = true then
 if (decide ((0 : Int) ≤ (IntKind.wrap .i64 (x0.2.1 + (if (decide ((IntKind.wrap .i64 (((List.length x0.1 : Nat) : Int) - x0.2.1)) < (if (decide (x1 < (0 : Int))) = true then (0 : Int) else x1))) = true then (IntKind.wrap .i64 (((List.length x0.1 : Nat) : Int) - x0.2.1)) else (if (decide (x1 < (0 : Int))) = true then (0 : Int) else x1)))))) = true then
 if (decide ((IntKind.wrap .i64 (x0.2.1 + (if (decide ((IntKind.wrap .i64 (((List.length x0.1 : Nat) : Int) - x0.2.1)) < (if (decide (x1 < (0 : Int))) = true then (0 : Int) else x1))) = true then (IntKind.wrap .i64 (((List.length x0.1 : Nat) : Int) - x0.2.1)) else (if (decide (x1 < (0 : Int))) = true then (0 : Int) else x1)))) ≤ (IntKind.wrap .i64 (x0.2.1 + (if (decide ((IntKind.wrap .i64 (((List.length x0.1 : Nat) : Int) - x0.2.1)) < (if (decide (x1 < (0 : Int))) = true then (0 : Int) else x1))) = true then (IntKind.wrap .i64 (((List.length x0.1 : Nat) : Int) - x0.2.1)) else (if (decide (x1 < (0 : Int))) = true then (0 : Int) else x1)))))) = true then
 letB (impl_copyDisk x0) fun v3 =>
 if (decide ((IntKind.wrap .i64 (x0.2.1 + (if (decide ((IntKind.wrap .i64 (((List.length x0.1 : Nat) : Int) - x0.2.1)) < (if (decide (x1 < (0 : Int))) = true then (0 : Int) else x1))) = true then (IntKind.wrap .i64 (((List.length x0.1 : Nat) : Int) - x0.2.1)) else (if (decide (x1 < (0 : Int))) = true then (0 : Int) else x1)))) ≤ ((List.length v3.1 : Nat) : Int))) = true then
 some ((), (((dropTake (Int.toNat (0 : Int)) (Int.toNat (IntKind.wrap .i64 (x0.2.1 + (if (decide ((IntKind.wrap .i64 (((List.length x0.1 : Nat) : Int) - x0.2.1)) < (if (decide (x1 < (0 : Int))) = true then (0 : Int) else x1))) = true then (IntKind.wrap .i64 (((List.length x0.1 : Nat) : Int) - x0.2.1)) else (if (decide (x1 < (0 : Int))) = true then (0 : Int) else x1))))) v3.1), ((IntKind.wrap .i64 (x0.2.1 + (if (decide ((IntKind.wrap .i64 (((List.length x0.1 : Nat) : Int) - x0.2.1)) < (if (decide (x1 < (0 : Int))) = true then (0 : Int) else x1))) = true then (IntKind.wrap .i64 (((List.length x0.1 : Nat) : Int) - x0.2.1)) else (if (decide (x1 < (0 : Int))) = true then (0 : Int) else x1)))), v3.2.2)), ()))
 else
 none
 else
 none
 else
 none
 else
 none
 else
 none
 else
 none
theorem fall_eq {d : Disk} {keep : Int} : d.2.1 + (if decide ((d.1.length : Int) - d.2.1 < (if decide (keep < 0) = true then 0 else keep)) = true then (d.1.length : Int) - d.2.1 else (if decide (keep < 0) = true then 0 else keep)) = fallN d keep ∨ DiskOk d = false := by
 cases hd : DiskOk d
 · exact .inr rfl
 have hf := diskOk_facts hd
 left
 unfold fallN maxI minI
 simp only [decide_eq_true_eq]
 repeat' split
 all_goals omega
theorem eq (x0 : Disk) (x1 : Int) (_ : wf x0 x1) (hp : pre x0 x1 = true) : raw x0 x1 = some ((), (Fall x0 x1, ())) := by
 have hs := dskS_small (show dskS x0 = true from hp)
 unfold raw Fall
 refine E_if (show impl_copyDisk.pre x0 = true from hs) (E_if (show impl_DiskOk.pre x0 = true from rfl) (E_let ?_))
 cases hd : DiskOk x0
 · rfl
 have hf := diskOk_facts hd
 have hn := fallN_ok (keep := x1) hd
 have he := (fall_eq (d := x0) (keep := x1)).resolve_right (by rw [hd]; decide)
 rw [w64 (n := (x0.1.length : Int) - x0.2.1) (by omega) (by omega), he, w64 (n := fallN x0 x1) (by omega) (by omega)]
 exact E_else (by decide) (E_if (by decide) (E_if (decide_eq_true hn.2.2) (E_if (decide_eq_true (Int.le_refl _)) (E_let (E_if (decide_eq_true hn.2.1) rfl)))))
end impl_Fall
abbrev impl_Fall := Fall
def Append (d : Disk) (b : List Int) : Disk × Bool := cond (DiskOk d && DiskOk (List.append d.1 b, d.2)) ((List.append d.1 b, d.2), true) (d, false)
namespace impl_Append
def pre (d : Disk) (b : List Int) : Bool := dskS d && decide (b.length ≤ 1000000)
abbrev wf (x0 : Disk) (x1 : (List Int)) : Prop := wfA [(.val zk25 .f), (.val zk20 .f)] (x0, (x1, ()))
noncomputable def raw (x0 : Disk) (x1 : (List Int)) : Option (Unit × (Disk × (Bool × Unit))) :=
 if (impl_copyDisk.pre x0) = true then
 letB (impl_copyDisk x0) fun v1 =>
 if (decide (List.length v1.1 + List.length x1 ≤ lim)) = true then
 if (impl_DiskOk.pre x0) = true then
 letB (DiskOk x0) fun v2 =>
 if (!v2) = true then
 if (impl_copyDisk.pre x0) = true then
 some ((), (v1, (false, ())))
 else
 none
 else
 if (impl_DiskOk.pre ((List.append v1.1 x1), v1.2)) = true then
 letB (DiskOk ((List.append v1.1 x1), v1.2)) fun v3 =>
 if (!v3) = true then
 if (impl_copyDisk.pre x0) = true then
 some ((), (v1, (false, ())))
 else
 none
 else
 some ((), (((List.append v1.1 x1), v1.2), (true, ())))
 else
 none
 else
 none
 else
 none
 else
 none
theorem eq (x0 : Disk) (x1 : List Int) (_ : wf x0 x1) (hp : pre x0 x1 = true) : raw x0 x1 = some ((), ((Append x0 x1).1, ((Append x0 x1).2, ()))) := by
 simp only [pre, Bool.and_eq_true, decide_eq_true_eq] at hp
 have hs := dskS_small hp.1
 have hl := hp.1
 simp only [dskS, decide_eq_true_eq] at hl
 unfold raw Append
 refine E_if (show impl_copyDisk.pre x0 = true from hs) (E_let (E_if (show decide (x0.1.length + x1.length ≤ lim) = true by simp only [decide_eq_true_eq, lim]; omega) (E_if (show impl_DiskOk.pre x0 = true from rfl) (E_let ?_))))
 cases hd : DiskOk x0
 · exact E_if rfl (E_if (show impl_copyDisk.pre x0 = true from hs) rfl)
 refine E_else (by decide) (E_if rfl (E_let ?_))
 show (if (!DiskOk (List.append x0.1 x1, x0.2)) = true then _ else _) = _
 cases h2 : DiskOk (List.append x0.1 x1, x0.2)
 · exact E_if rfl (E_if (show impl_copyDisk.pre x0 = true from hs) rfl)
 · rfl
end impl_Append
abbrev impl_Append := Append
namespace spec_Append
def pre (d : Disk) (b : List Int) : Bool := dskS d && decide (b.length ≤ 1000000)
abbrev wf (x0 : Disk) (x1 : (List Int)) : Prop := wfA [(.val zk25 .f), (.val zk20 .f)] (x0, (x1, ()))
noncomputable def raw (x0 : Disk) (x1 : (List Int)) : Option (Unit × (Disk × (Bool × Unit))) :=
 if (spec_l10Copy.pre x0) = true then
 if (spec_DiskOk.pre x0) = true then
 letB (DiskOk x0) fun v1 =>
 if (!v1) = true then
 letB (spec_l10Copy x0) fun v2 =>
 some ((), (v2, (false, ())))
 else
 if (decide ((IntKind.wrap .i64 ((80000 : Int) - ((List.length x0.1 : Nat) : Int))) < ((List.length x1 : Nat) : Int))) = true then
 letB (spec_l10Copy x0) fun v3 =>
 some ((), (v3, (false, ())))
 else
 letB (spec_l10Copy x0) fun v4 =>
 if (decide (List.length v4.1 + List.length x1 ≤ lim)) = true then
 some ((), (((List.append v4.1 x1), v4.2), (true, ())))
 else
 none
 else
 none
 else
 none
theorem eq (x0 : Disk) (x1 : List Int) (_ : wf x0 x1) (hp : pre x0 x1 = true) : raw x0 x1 = some ((), ((Append x0 x1).1, ((Append x0 x1).2, ()))) := by
 simp only [pre, Bool.and_eq_true, decide_eq_true_eq] at hp
 have hs := dskS_small hp.1
 have hl := hp.1
 simp only [dskS, decide_eq_true_eq] at hl
 unfold raw Append
 refine E_if (show spec_l10Copy.pre x0 = true from hs) (E_if (show spec_DiskOk.pre x0 = true from rfl) (E_let ?_))
 cases hd : DiskOk x0
 · rfl
 have hf := diskOk_facts hd
 have h2 : DiskOk (List.append x0.1 x1, x0.2) = decide ((x0.1.length : Int) + x1.length ≤ 80000) := by
  simp only [DiskOk, impl_within, List.append_eq, List.length_append]
  rw [decide_eq_true (p := 0 ≤ x0.2.1) hf.2.1, decide_eq_true (p := x0.2.1 ≤ ((x0.1.length + x1.length : Nat) : Int)) (by omega), Bool.and_true, Bool.and_true]
  push_cast; rfl
 rw [h2, w64 (n := 80000 - (x0.1.length : Int)) (by omega) (by omega)]
 by_cases h3 : 80000 - (x0.1.length : Int) < (x1.length : Int)
 · rw [decide_eq_false (p := (x0.1.length : Int) + x1.length ≤ 80000) (by omega)]
   exact E_else (by decide) (E_if (decide_eq_true h3) rfl)
 · rw [decide_eq_true (p := (x0.1.length : Int) + x1.length ≤ 80000) (by omega)]
   exact E_else (by decide) (E_else (by rw [decide_eq_true_eq]; exact h3) (E_let (E_if (show decide (x0.1.length + x1.length ≤ lim) = true by simp only [decide_eq_true_eq, lim]; omega) rfl)))
end spec_Append
abbrev spec_Append := Append
def Sync (d : Disk) : Disk := cond (DiskOk d) (d.1, ((d.1.length : Int), d.2.2)) d
namespace impl_Sync
def pre (d : Disk) : Bool := dskS d
abbrev wf (x0 : Disk) : Prop := wfA [(.val zk25 .f)] (x0, ())
noncomputable def raw (x0 : Disk) : Option (Unit × (Disk × Unit)) :=
 if (impl_copyDisk.pre x0) = true then
 if (impl_DiskOk.pre x0) = true then
 letB (DiskOk x0) fun v1 =>
 if v1 = true then
 letB (impl_copyDisk x0) fun v2 =>
 some ((), ((v2.1, (((List.length v2.1 : Nat) : Int), v2.2.2)), ()))
 else
 letB (impl_copyDisk x0) fun v3 =>
 some ((), (v3, ()))
 else
 none
 else
 none
theorem eq (x0 : Disk) (_ : wf x0) (hp : pre x0 = true) : raw x0 = some ((), (Sync x0, ())) := by
 have hs := dskS_small (show dskS x0 = true from hp)
 unfold raw Sync
 refine E_if (show impl_copyDisk.pre x0 = true from hs) (E_if (show impl_DiskOk.pre x0 = true from rfl) (E_let ?_))
 cases DiskOk x0 <;> rfl
end impl_Sync
abbrev impl_Sync := Sync
namespace spec_Sync
def pre (d : Disk) : Bool := dskS d
abbrev wf (x0 : Disk) : Prop := wfA [(.val zk25 .f)] (x0, ())
noncomputable def raw (x0 : Disk) : Option (Unit × (Disk × Unit)) :=
 if (spec_l10Copy.pre x0) = true then
 if (spec_DiskOk.pre x0) = true then
 letB (DiskOk x0) fun v1 =>
 if v1 = true then
 letB (spec_l10Copy x0) fun v2 =>
 some ((), ((v2.1, (((List.length x0.1 : Nat) : Int), v2.2.2)), ()))
 else
 letB (spec_l10Copy x0) fun v3 =>
 some ((), (v3, ()))
 else
 none
 else
 none
theorem eq (x0 : Disk) (_ : wf x0) (hp : pre x0 = true) : raw x0 = some ((), (Sync x0, ())) := by
 have hs := dskS_small (show dskS x0 = true from hp)
 unfold raw Sync
 refine E_if (show spec_l10Copy.pre x0 = true from hs) (E_if (show spec_DiskOk.pre x0 = true from rfl) (E_let ?_))
 cases DiskOk x0 <;> rfl
end spec_Sync
abbrev spec_Sync := Sync
theorem neq_self {α : Type} [BEq α] [ReflBEq α] (a : α) : ¬ (!(a == a)) = true := by rw [beq_self_eq_true]; decide
theorem nde_self (a : Int) : ¬ (!decide (a = a)) = true := by rw [decide_eq_true rfl]; decide
def laws_FnDisks (_ : List Int) : Bool := true
namespace laws_FnDisks
abbrev wf (x0 : (List Int)) : Prop := wfA [(.val zk20 .f)] (x0, ())
noncomputable def raw (x0 : (List Int)) : Option zt28 :=
 letB (laws_big x0) fun v1 =>
 if v1 = true then
 some ((), (true, ()))
 else
 if (spec_DrawFall.pre x0) = true then
 letB (spec_DrawFall x0) fun v2 =>
 if (impl_Fall.pre v2.1 v2.2) = true then
 if (spec_Fall.pre v2.1 v2.2) = true then
 if (spec_DrawAppend.pre x0) = true then
 letB (spec_DrawAppend x0) fun v3 =>
 if (impl_Append.pre v3.1 v3.2) = true then
 if (spec_Append.pre v3.1 v3.2) = true then
 if (spec_DrawSync.pre x0) = true then
 letB (spec_DrawSync x0) fun v4 =>
 if (impl_Sync.pre v4) = true then
 if (spec_DrawDiskOk.pre x0) = true then
 letB (Fall v2.1 v2.2) fun v5 =>
 letB (Fall v2.1 v2.2) fun v6 =>
 if (!((strOf v5.1) == (strOf v6.1))) = true then
 some ((), (false, ()))
 else
 if (!(decide (v5.2.1 = v6.2.1))) = true then
 some ((), (false, ()))
 else
 letB (Append v3.1 v3.2) fun v7 =>
 letB (Append v3.1 v3.2) fun v8 =>
 if (!(v7.2 == v8.2)) = true then
 some ((), (false, ()))
 else
 if (spec_Sync.pre v4) = true then
 letB (Sync v4) fun v9 =>
 letB (Sync v4) fun v10 =>
 if (!(decide (v9.2.1 = v10.2.1))) = true then
 some ((), (false, ()))
 else
 letB (spec_DrawDiskOk x0) fun v11 =>
 if (impl_DiskOk.pre v11) = true then
 if (spec_DiskOk.pre v11) = true then
 letB (DiskOk v11) fun v12 =>
 letB (DiskOk v11) fun v13 =>
 if (!(v12 == v13)) = true then
 some ((), (false, ()))
 else
 if v7.2 = true then
 if (decide (List.length (strOf v3.1.1) + List.length (strOf v3.2) ≤ lim)) = true then
 if (!((strOf v7.1.1) == (List.append (strOf v3.1.1) (strOf v3.2)))) = true then
 some ((), (false, ()))
 else
 if (!(decide (v7.1.2.1 = v3.1.2.1))) = true then
 some ((), (false, ()))
 else
 if (impl_DiskOk.pre v2.1) = true then
 letB (DiskOk v2.1) fun v14 =>
 if (!v14) = true then
 some ((), ((decide (((List.length v5.1 : Nat) : Int) = ((List.length v2.1.1 : Nat) : Int))), ()))
 else
 if (decide (v2.1.2.1 ≤ ((List.length v5.1 : Nat) : Int))) = true then
 if (decide (v5.2.1 = ((List.length v5.1 : Nat) : Int))) = true then
 if (decide ((0 : Int) ≤ (0 : Int))) = true then
 if (decide ((0 : Int) ≤ ((List.length v5.1 : Nat) : Int))) = true then
 if (decide (((List.length v5.1 : Nat) : Int) ≤ ((List.length v2.1.1 : Nat) : Int))) = true then
 if ((strOf v5.1) == (strOf (dropTake (Int.toNat (0 : Int)) (Int.toNat ((List.length v5.1 : Nat) : Int)) v2.1.1))) = true then
 if (impl_Sync.pre v2.1) = true then
 letB (Sync v2.1) fun v15 =>
 if (impl_Fall.pre v15 (0 : Int)) = true then
 letB (Fall v15 (0 : Int)) fun v16 =>
 some ((), (((strOf v16.1) == (strOf v2.1.1)), ()))
 else
 none
 else
 none
 else
 some ((), (false, ()))
 else
 none
 else
 none
 else
 none
 else
 some ((), (false, ()))
 else
 some ((), (false, ()))
 else
 none
 else
 none
 else
 if (impl_DiskOk.pre v2.1) = true then
 letB (DiskOk v2.1) fun v17 =>
 if (!v17) = true then
 some ((), ((decide (((List.length v5.1 : Nat) : Int) = ((List.length v2.1.1 : Nat) : Int))), ()))
 else
 if (decide (v2.1.2.1 ≤ ((List.length v5.1 : Nat) : Int))) = true then
 if (decide (v5.2.1 = ((List.length v5.1 : Nat) : Int))) = true then
 if (decide ((0 : Int) ≤ (0 : Int))) = true then
 if (decide ((0 : Int) ≤ ((List.length v5.1 : Nat) : Int))) = true then
 if (decide (((List.length v5.1 : Nat) : Int) ≤ ((List.length v2.1.1 : Nat) : Int))) = true then
 if ((strOf v5.1) == (strOf (dropTake (Int.toNat (0 : Int)) (Int.toNat ((List.length v5.1 : Nat) : Int)) v2.1.1))) = true then
 if (impl_Sync.pre v2.1) = true then
 letB (Sync v2.1) fun v18 =>
 if (impl_Fall.pre v18 (0 : Int)) = true then
 letB (Fall v18 (0 : Int)) fun v19 =>
 some ((), (((strOf v19.1) == (strOf v2.1.1)), ()))
 else
 none
 else
 none
 else
 some ((), (false, ()))
 else
 none
 else
 none
 else
 none
 else
 some ((), (false, ()))
 else
 some ((), (false, ()))
 else
 none
 else
 none
 else
 none
 else
 none
 else
 none
 else
 none
 else
 none
 else
 none
 else
 none
 else
 none
 else
 none
 else
 none
 else
 none
theorem fin {d : Disk} {keep : Int} (hs : dskS d = true) (hd : DiskOk d = true) : d.2.1 ≤ ((Fall d keep).1.length : Int) ∧ (Fall d keep).2.1 = ((Fall d keep).1.length : Int) ∧ ((Fall d keep).1.length : Int) ≤ (d.1.length : Int) ∧ (Fall d keep).1 = dropTake (Int.toNat 0) (((Fall d keep).1.length : Int)).toNat d.1 ∧ dskS (Sync d) = true ∧ (Fall (Sync d) 0).1 = d.1 := by
 have hn := fallN_ok (keep := keep) hd
 have hf := diskOk_facts hd
 have hl : ((Fall d keep).1.length : Int) = fallN d keep := by
  unfold Fall; rw [hd]
  show ((d.1.take _).length : Int) = _
  rw [List.length_take]; omega
 have hsy : Sync d = (d.1, ((d.1.length : Int), d.2.2)) := by unfold Sync; rw [hd]; rfl
 have hok : DiskOk (d.1, ((d.1.length : Int), d.2.2)) = true := by
  simp only [DiskOk, impl_within, Bool.and_eq_true, decide_eq_true_eq]; omega
 rw [hl]
 refine ⟨hn.1, ?_, hn.2.1, ?_, by rw [hsy]; exact hs, ?_⟩
 · unfold Fall; rw [hd]; rfl
 · unfold Fall; rw [hd]; rfl
 · have h2 := fallN_ok (keep := 0) hok
   have h3 : (d.1.length : Int) ≤ fallN (d.1, ((d.1.length : Int), d.2.2)) 0 := h2.1
   rw [hsy]
   unfold Fall; rw [hok]
   show d.1.take _ = d.1
   rw [List.take_of_length_le (by omega)]
theorem eq (x0 : List Int) (_ : wf x0) : raw x0 = some ((), (laws_FnDisks x0, ())) := by
 refine W_eq ?_
 unfold raw
 refine W_let (W_ite (fun _ => W_some rfl) fun hb => ?_)
 have hs := not_big hb
 refine W_if (show spec_DrawFall.pre x0 = true from hs) (W_fact (P := fun v : Disk × Int => diskP v.1) (spec_DrawFall_sp hs) fun a ha => ?_)
 have ha := dskS_of ha
 have tail : Wp (if impl_DiskOk.pre a.1 = true then letB (DiskOk a.1) fun v =>
  if (!v) = true then some ((), (decide (((Fall a.1 a.2).1.length : Int) = (a.1.1.length : Int)), ())) else
  if decide (a.1.2.1 ≤ ((Fall a.1 a.2).1.length : Int)) = true then if decide ((Fall a.1 a.2).2.1 = ((Fall a.1 a.2).1.length : Int)) = true then if decide ((0 : Int) ≤ 0) = true then if decide ((0 : Int) ≤ ((Fall a.1 a.2).1.length : Int)) = true then if decide (((Fall a.1 a.2).1.length : Int) ≤ (a.1.1.length : Int)) = true then
   if (strOf (Fall a.1 a.2).1 == strOf (dropTake (Int.toNat 0) (((Fall a.1 a.2).1.length : Int)).toNat a.1.1)) = true then if impl_Sync.pre a.1 = true then letB (Sync a.1) fun w => if impl_Fall.pre w 0 = true then letB (Fall w 0) fun u => some ((), ((strOf u.1 == strOf a.1.1), ())) else none else none else some ((), (false, ())) else none else none else none else some ((), (false, ())) else some ((), (false, ())) else none) (fun r : Unit × (Bool × Unit) => r.2.1 = true) := by
  refine W_if (show impl_DiskOk.pre a.1 = true from rfl) (W_let ?_)
  cases hd : DiskOk a.1
  · refine W_if rfl (W_some ?_)
    show decide (((Fall a.1 a.2).1.length : Int) = (a.1.1.length : Int)) = true
    unfold Fall; rw [hd]; simp
  · obtain ⟨f1, f2, f3, f4, f5, f6⟩ := fin (keep := a.2) ha hd
    refine W_else (by decide) (W_if (decide_eq_true f1) (W_if (decide_eq_true f2) (W_if (by decide) (W_if (decide_eq_true (by omega)) (W_if (decide_eq_true f3) (W_if ?_ ?_))))))
    rotate_left
    · refine W_if (show impl_Sync.pre a.1 = true from ha) (W_let (W_if (show impl_Fall.pre _ 0 = true from f5) (W_let (W_some ?_))))
      show (strOf (Fall (Sync a.1) 0).1 == strOf a.1.1) = true
      rw [f6, beq_self_eq_true]
    · rw [← f4, beq_self_eq_true]
 refine W_if (show impl_Fall.pre a.1 a.2 = true from ha) (W_if (show spec_Fall.pre a.1 a.2 = true from ha) (W_if (show spec_DrawAppend.pre x0 = true from hs) (W_fact (P := fun v : Disk × List Int => diskP v.1 ∧ bytesP 123000 v.2) (spec_DrawAppend_sp hs) fun b hb => ?_)))
 have hbp : (dskS b.1 && decide (b.2.length ≤ 1000000)) = true := by
  have : b.2.length ≤ 123000 := hb.2
  rw [dskS_of hb.1, Bool.true_and, decide_eq_true_eq]; omega
 refine W_if (show impl_Append.pre b.1 b.2 = true from hbp) (W_if (show spec_Append.pre b.1 b.2 = true from hbp) (W_if (show spec_DrawSync.pre x0 = true from hs) (W_fact (spec_DrawSync_sp hs) fun c hc => ?_)))
 have hc := dskS_of hc
 refine W_if (show impl_Sync.pre c = true from hc) (W_if (show spec_DrawDiskOk.pre x0 = true from hs) (W_let (W_let (W_else (neq_self _) (W_else (nde_self _) (W_let (W_let (W_else (neq_self _) ?_))))))))
 refine W_if (show spec_Sync.pre c = true from hc) (W_let (W_let (W_else (nde_self _) (W_let ?_))))
 refine W_if (show impl_DiskOk.pre _ = true from rfl) (W_if (show spec_DiskOk.pre _ = true from rfl) (W_let (W_let (W_else (neq_self _) ?_))))
 refine W_ite (fun h => ?_) fun h => tail
 have hA : (Append b.1 b.2).1 = (List.append b.1.1 b.2, b.1.2) := by
  have h : (Append b.1 b.2).2 = true := h
  unfold Append at h ⊢
  cases hc : (DiskOk b.1 && DiskOk (List.append b.1.1 b.2, b.1.2))
  · rw [hc] at h; cases h
  · rfl
 have l1 := hb.1
 have l2 := hb.2
 simp only [diskP, bytesP] at l1 l2
 refine W_if (by simp only [decide_eq_true_eq, strOf, List.length_map, lim]; omega) ?_
 show Wp (if (!(strOf (Append b.1 b.2).1.1 == List.append (strOf b.1.1) (strOf b.2))) = true then _ else if (!decide ((Append b.1 b.2).1.2.1 = b.1.2.1)) = true then _ else _) _
 rw [hA]
 refine W_else ?_ (W_else (nde_self _) tail)
 show ¬ (!(strOf (b.1.1 ++ b.2) == strOf b.1.1 ++ strOf b.2)) = true
 rw [show strOf (b.1.1 ++ b.2) = strOf b.1.1 ++ strOf b.2 by simp [strOf]]
 exact neq_self _
end laws_FnDisks
end Go.Aw.Pl
