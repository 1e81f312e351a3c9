/-
  The law of LogPut.
-/
import Derived.Test.YtdgpjdedpkpfhaaPlJ
namespace Go.Aw.Pl
open Go Go.Aw

theorem szCmd_le {c : Cmd} {l : Int} (h1 : c.2.2.2.2.2.2.1.length ≤ maxLen) (h2 : c.2.2.2.2.2.2.2.1.length ≤ maxLen) (h0 : 0 ≤ l) (hl : l ≤ 16777216) : laws_szCmd c l ≤ l := by
  have hM := maxLen_eq
  unfold laws_szCmd
  rw [w64 (n := l - (c.2.2.2.2.2.2.1.length : Int)) (by omega) (by omega)]
  split
  · omega
  · rw [w64 (n := l - (c.2.2.2.2.2.2.1.length : Int) - (c.2.2.2.2.2.2.2.1.length : Int)) (by omega) (by omega)]
    split <;> omega

theorem szEntry_le {e : Entry} {l : Int} (h1 : e.2.1.2.2.2.2.2.2.1.length ≤ maxLen) (h2 : e.2.1.2.2.2.2.2.2.2.1.length ≤ maxLen) (h0 : 0 ≤ l) (hl : l ≤ 16777216) : laws_szEntry e l ≤ l := by
  have := szCmd_le h1 h2 h0 hl
  unfold laws_szEntry
  split <;> omega

theorem szL_le : (xs : List Entry) → {l : Int} → (∀ e ∈ xs, e.2.1.2.2.2.2.2.2.1.length ≤ maxLen ∧ e.2.1.2.2.2.2.2.2.2.1.length ≤ maxLen) → 0 ≤ l → l ≤ 16777216 → szL laws_szEntry xs l ≤ l
  | [], l, _, _, _ => by simp [szL]
  | e :: r, l, h, h0, hl => by
    simp only [szL]
    have he := h e (by simp)
    have h1 := szEntry_le he.1 he.2 h0 hl
    split
    · omega
    · have := szL_le r (l := laws_szEntry e l) (fun x hx => h x (by simp [hx])) (by omega) (by omega)
      omega

theorem szEntryS_le {xs : List Entry} {l : Int} (hx : xs.length ≤ maxLen) (h : ∀ e ∈ xs, e.2.1.2.2.2.2.2.2.1.length ≤ maxLen ∧ e.2.1.2.2.2.2.2.2.2.1.length ≤ maxLen) (h0 : 0 ≤ l) (hl : l ≤ 16777216) : laws_szEntryS xs l ≤ l := by
  have hM := maxLen_eq
  unfold laws_szEntryS
  rw [w64 (by omega) (by omega)]
  split
  · omega
  · rename_i hn
    have := szL_le xs h (l := l - (xs.length : Int)) (by omega) (by omega)
    split <;> omega

theorem szLog_le {x : Log} {l : Int} (hx : x.2.2.1.length ≤ maxLen) (h : ∀ e ∈ x.2.2.1, e.2.1.2.2.2.2.2.2.1.length ≤ maxLen ∧ e.2.1.2.2.2.2.2.2.2.1.length ≤ maxLen) (h0 : 0 ≤ l) (hl : l ≤ 16777216) : laws_szLog x l ≤ l := by
  have := szEntryS_le hx h h0 hl
  unfold laws_szLog
  split <;> omega

theorem small_LogPut {l : Log} (h : small l.2.2.1 = true) (a b : Int) (xs : List Entry) : small (LogPut l a b xs).1.2.2.1 = true := by
  unfold LogPut
  split
  · split
    · exact h
    · split
      · split
        · rename_i hk
          obtain ⟨g1, g2, g3⟩ := logOk_base hk
          rw [small_iff]
          show (putL xs l.2.2.1 (kOf a l.1 0)).length ≤ _
          have g3' : ((putL xs l.2.2.1 (kOf a l.1 0)).length : Int) ≤ 300 - l.1 := g3
          have g1' : 0 ≤ l.1 := g1
          omega
        · exact h
      · exact h
  · rfl

def laws_FnExactLogPut (_ : Log) (_ _ : Int) (_ : List Entry) : Bool := true
namespace laws_FnExactLogPut
abbrev wf (x0 : Log) (x1 : Int) (x2 : Int) (x3 : (List Entry)) : Prop := wfA [(.val (.pair (.int .i64) (.pair (.int .i64) (.pair (.sl 0 (.pair (.int .i64) (.pair (.pair (.int .i64) (.pair (.int .i64) (.pair (.int .i64) (.pair (.int .i64) (.pair (.int .i64) (.pair (.int .i64) (.pair .str (.pair .str .unit)))))))) .unit))) .unit))) .f), (.val (.int .i64) .f), (.val (.int .i64) .f), (.val (.sl 0 (.pair (.int .i64) (.pair (.pair (.int .i64) (.pair (.int .i64) (.pair (.int .i64) (.pair (.int .i64) (.pair (.int .i64) (.pair (.int .i64) (.pair .str (.pair .str .unit)))))))) .unit))) .f)] (x0, (x1, (x2, (x3, ()))))
noncomputable def raw (x0 : Log) (x1 : Int) (x2 : Int) (x3 : (List Entry)) : Option (Unit × (Bool × Unit)) :=
 if (decide ((laws_szLog x0 (1048576 : Int)) < (0 : Int))) = true then
  some ((), (true, ()))
 else
  if (decide ((laws_szEntryS x3 (laws_szLog x0 (1048576 : Int))) < (0 : Int))) = true then
   some ((), (true, ()))
  else
   if (laws_toLog.pre x0) = true then
    if (laws_toEntryS.pre x3) = true then
     if (spec_LogPut.pre (laws_toLog x0) x1 x2 (laws_toEntryS x3)) = true then
      if (laws_toLog.pre x0) = true then
       if (laws_toEntryS.pre x3) = true then
        if (impl_LogPut.pre (laws_toLog x0) x1 x2 (laws_toEntryS x3)) = true then
         if (!(laws_eqLog (LogPut (laws_toLog x0) x1 x2 (laws_toEntryS x3)).1 (LogPut (laws_toLog x0) x1 x2 (laws_toEntryS x3)).1)) = true then
          some ((), (false, ()))
         else
          if (!((LogPut (laws_toLog x0) x1 x2 (laws_toEntryS x3)).2 == (LogPut (laws_toLog x0) x1 x2 (laws_toEntryS x3)).2)) = true then
           some ((), (false, ()))
          else
           if (laws_toLog.pre x0) = true then
            if (!(laws_eqLog (laws_toLog x0) (laws_toLog x0))) = true then
             some ((), (false, ()))
            else
             if (laws_toEntryS.pre x3) = true then
              if (!(laws_eqEntryS (laws_toEntryS x3) (laws_toEntryS x3))) = true then
               some ((), (false, ()))
              else
               if (laws_markLog.pre (laws_toLog x0) (1 : Int)) = true then
                if (laws_markEntryS.pre (laws_toEntryS x3) (laws_markLog (laws_toLog x0) (1 : Int)).2) = true then
                 if (decide ((laws_markEntryS (laws_toEntryS x3) (laws_markLog (laws_toLog x0) (1 : Int)).2).2 < (0 : Int))) = true then
                  some ((), (false, ()))
                 else
                  if (!(laws_eqLog (LogPut (laws_toLog x0) x1 x2 (laws_toEntryS x3)).1 (LogPut (laws_toLog x0) x1 x2 (laws_toEntryS x3)).1)) = true then
                   some ((), (false, ()))
                  else
                   if (!((LogPut (laws_toLog x0) x1 x2 (laws_toEntryS x3)).2 == (LogPut (laws_toLog x0) x1 x2 (laws_toEntryS x3)).2)) = true then
                    some ((), (false, ()))
                   else
                    if (laws_markLog.pre (LogPut (laws_toLog x0) x1 x2 (laws_toEntryS x3)).1 (1 : Int)) = true then
                     if (laws_heldLog.pre ((LogPut (laws_toLog x0) x1 x2 (laws_toEntryS x3)).1.1, ((LogPut (laws_toLog x0) x1 x2 (laws_toEntryS x3)).1.2.1, ((laws_markLog (LogPut (laws_toLog x0) x1 x2 (laws_toEntryS x3)).1 (1 : Int)).1.2.2.1, (LogPut (laws_toLog x0) x1 x2 (laws_toEntryS x3)).1.2.2.2))) (1 : Int)) = true then
                      if (decide ((laws_heldLog ((LogPut (laws_toLog x0) x1 x2 (laws_toEntryS x3)).1.1, ((LogPut (laws_toLog x0) x1 x2 (laws_toEntryS x3)).1.2.1, ((laws_markLog (LogPut (laws_toLog x0) x1 x2 (laws_toEntryS x3)).1 (1 : Int)).1.2.2.1, (LogPut (laws_toLog x0) x1 x2 (laws_toEntryS x3)).1.2.2.2))) (1 : Int)) < (0 : Int))) = true then
                       some ((), (false, ()))
                      else
                       if (!(decide ((laws_heldLog ((LogPut (laws_toLog x0) x1 x2 (laws_toEntryS x3)).1.1, ((LogPut (laws_toLog x0) x1 x2 (laws_toEntryS x3)).1.2.1, ((laws_markLog (LogPut (laws_toLog x0) x1 x2 (laws_toEntryS x3)).1 (1 : Int)).1.2.2.1, (LogPut (laws_toLog x0) x1 x2 (laws_toEntryS x3)).1.2.2.2))) (1 : Int)) = (laws_markLog (LogPut (laws_toLog x0) x1 x2 (laws_toEntryS x3)).1 (1 : Int)).2))) = true then
                        some ((), (false, ()))
                       else
                        if (laws_toLog.pre x0) = true then
                         if (laws_toEntryS.pre x3) = true then
                          if (impl_LogPut.pre (laws_toLog x0) x1 x2 (laws_toEntryS x3)) = true then
                           if (!(laws_eqLog (LogPut (laws_toLog x0) x1 x2 (laws_toEntryS x3)).1 (LogPut (laws_toLog x0) x1 x2 (laws_toEntryS x3)).1)) = true then
                            some ((), (false, ()))
                           else
                            if (!((LogPut (laws_toLog x0) x1 x2 (laws_toEntryS x3)).2 == (LogPut (laws_toLog x0) x1 x2 (laws_toEntryS x3)).2)) = true then
                             some ((), (false, ()))
                            else
                             if (laws_heldLog.pre ((LogPut (laws_toLog x0) x1 x2 (laws_toEntryS x3)).1.1, ((LogPut (laws_toLog x0) x1 x2 (laws_toEntryS x3)).1.2.1, ((laws_markLog (LogPut (laws_toLog x0) x1 x2 (laws_toEntryS x3)).1 (1 : Int)).1.2.2.1, (LogPut (laws_toLog x0) x1 x2 (laws_toEntryS x3)).1.2.2.2))) (1 : Int)) = true then
                              if (decide ((laws_heldLog ((LogPut (laws_toLog x0) x1 x2 (laws_toEntryS x3)).1.1, ((LogPut (laws_toLog x0) x1 x2 (laws_toEntryS x3)).1.2.1, ((laws_markLog (LogPut (laws_toLog x0) x1 x2 (laws_toEntryS x3)).1 (1 : Int)).1.2.2.1, (LogPut (laws_toLog x0) x1 x2 (laws_toEntryS x3)).1.2.2.2))) (1 : Int)) < (0 : Int))) = true then
                               some ((), (false, ()))
                              else
                               if (!(decide ((laws_heldLog ((LogPut (laws_toLog x0) x1 x2 (laws_toEntryS x3)).1.1, ((LogPut (laws_toLog x0) x1 x2 (laws_toEntryS x3)).1.2.1, ((laws_markLog (LogPut (laws_toLog x0) x1 x2 (laws_toEntryS x3)).1 (1 : Int)).1.2.2.1, (LogPut (laws_toLog x0) x1 x2 (laws_toEntryS x3)).1.2.2.2))) (1 : Int)) = (laws_markLog (LogPut (laws_toLog x0) x1 x2 (laws_toEntryS x3)).1 (1 : Int)).2))) = true then
                                some ((), (false, ()))
                               else
                                some ((), (true, ()))
                             else
                              none
                          else
                           none
                         else
                          none
                        else
                         none
                     else
                      none
                    else
                     none
                else
                 none
               else
                none
             else
              none
           else
            none
        else
         none
       else
        none
      else
       none
     else
      none
    else
     none
   else
    none
theorem eq (x0 : Log) (x1 x2 : Int) (x3 : List Entry) (hw : wf x0 x1 x2 x3) : raw x0 x1 x2 x3 = some ((), (laws_FnExactLogPut x0 x1 x2 x3, ())) := by
  have hel : ∀ e ∈ x0.2.2.1, e.2.1.2.2.2.2.2.2.1.length ≤ maxLen ∧ e.2.1.2.2.2.2.2.2.2.1.length ≤ maxLen := by
    intro e he
    obtain ⟨i, hi⟩ := List.getElem?_of_mem he
    have := hw.1.2.2.1.2 i e hi
    exact ⟨this.2.1.2.2.2.2.2.2.1, this.2.1.2.2.2.2.2.2.2.1⟩
  unfold raw
  by_cases h : laws_szLog x0 1048576 < 0
  · simp [h, laws_FnExactLogPut]
  by_cases h' : laws_szEntryS x3 (laws_szLog x0 1048576) < 0
  · simp [h, h', laws_FnExactLogPut]
  have hs := szLog_pre hw.1.2.2.1.1 h
  have hle : laws_szLog x0 1048576 ≤ 1048576 := szLog_le (l := 1048576) hw.1.2.2.1.1 hel (by omega) (by omega)
  have h3 : (x3.length : Int) ≤ laws_szLog x0 1048576 := szEntryS_small hw.2.2.2.1.1 (by omega) (by omega) h'
  have hs3 : small x3 = true := by rw [small_iff]; omega
  have hp : laws_toLog.pre x0 = true := hs
  have hp3 : laws_toEntryS.pre x3 = true := hs3
  have hp1 : impl_LogPut.pre x0 x1 x2 x3 = true := by simp [impl_LogPut.pre, hs, hs3]
  have hp2 : spec_LogPut.pre x0 x1 x2 x3 = true := by simp [spec_LogPut.pre, hs, hs3]
  have hs' := small_LogPut hs x1 x2 x3
  have hm := markLog_pre hs
  have hm' := markLog_pre hs'
  have hl : x0.2.2.1.length ≤ 16777216 := small_iff.1 hs
  have hme : laws_markEntryS.pre x3 (laws_markLog x0 1).2 = true := by
    rw [markLog_2]
    simp only [laws_markEntryS.pre, hs3, Bool.true_and, Bool.and_eq_true, decide_eq_true_eq]
    omega
  have hn : ¬ (laws_markEntryS x3 (laws_markLog x0 1).2).2 < 0 := by
    rw [markLog_2]
    show ¬ 1 + 9 * (x0.2.2.1.length : Int) + 9 * (x3.length : Int) < 0
    omega
  have he3 : laws_eqEntryS x3 x3 = true := same_self x3
  simp only [laws_toLog, laws_toEntryS]
  simp [h, h', hp, hp3, hp1, hp2, hm, hm', hme, hn, he3, eqLog_self, markLog_2 (LogPut x0 x1 x2 x3).1, held_markLog hs', heldLog_pre hs', nneg9, laws_FnExactLogPut]
end laws_FnExactLogPut
end Go.Aw.Pl
