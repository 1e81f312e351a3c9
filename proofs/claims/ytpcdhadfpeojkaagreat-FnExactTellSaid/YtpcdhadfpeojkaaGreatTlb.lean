import Derived.Test.YtpcdhadfpeojkaaGreatTla
namespace Go.Aw.Pl
open Go Go.Aw
set_option linter.unusedVariables false
set_option linter.unusedSimpArgs false
set_option maxHeartbeats 1000000
theorem heldGroupS_pos {xs : List Group} {k : Int} (h : xs = mkL mk_Group cnt_Group xs k) : laws_heldGroupS xs k = k + cntL cnt_Group xs := heldN_pos h
theorem heldGroupS_neg {xs : List Group} {k : Int} (h : ¬ xs = mkL mk_Group cnt_Group xs k) : laws_heldGroupS xs k = -1 := heldN_neg h
theorem heldGroupS_pre {xs : List Group} {k : Int} (h0 : 0 ≤ k) (h1 : k + cntL cnt_Group xs ≤ 134217728) : laws_heldGroupS.pre xs k = true := mPre_iff.2 ⟨h0, h1⟩
def mkT_Keep (x : Keep) (k : Int) : Keep := (mkL mk_Row cnt_Row x.1 (k), (mkL mk_Maker cnt_Maker x.2.1 (k + cntL cnt_Row x.1), (mkL mk_Group cnt_Group x.2.2.1 (k + cntL cnt_Row x.1 + cntL cnt_Maker x.2.1), (x.2.2.2.1, (mkL mk_Int cnt_Int x.2.2.2.2.1 (k + cntL cnt_Row x.1 + cntL cnt_Maker x.2.1 + cntL cnt_Group x.2.2.1), (mkL mk_Answer cnt_Answer x.2.2.2.2.2.1 (k + cntL cnt_Row x.1 + cntL cnt_Maker x.2.1 + cntL cnt_Group x.2.2.1 + cntL cnt_Int x.2.2.2.2.1), ()))))))
def cntT_Keep (x : Keep) : Int := cntL cnt_Row x.1 + cntL cnt_Maker x.2.1 + cntL cnt_Group x.2.2.1 + cntL cnt_Int x.2.2.2.2.1 + cntL cnt_Answer x.2.2.2.2.2.1
theorem cntT_Keep_nn (x : Keep) : 0 ≤ cntT_Keep x := by
  have n0 := cntL_nn mk_Row_ok x.1
  have n1 := cntL_nn mk_Maker_ok x.2.1
  have n2 := cntL_nn mk_Group_ok x.2.2.1
  have n4 := cntL_nn mk_Int_ok x.2.2.2.2.1
  have n5 := cntL_nn mk_Answer_ok x.2.2.2.2.2.1
  simp only [cntT_Keep]; omega
theorem mkT_Keep_keep (x : Keep) (k : Int) : cntT_Keep (mkT_Keep x k) = cntT_Keep x := by simp only [cntT_Keep, mkT_Keep, cntL_mkL mk_Answer_ok, cntL_mkL mk_Group_ok, cntL_mkL mk_Int_ok, cntL_mkL mk_Maker_ok, cntL_mkL mk_Row_ok]
theorem mkT_Keep_idem (x : Keep) (k : Int) : mkT_Keep (mkT_Keep x k) k = mkT_Keep x k := by simp only [mkT_Keep, cntL_mkL mk_Answer_ok, cntL_mkL mk_Group_ok, cntL_mkL mk_Int_ok, cntL_mkL mk_Maker_ok, cntL_mkL mk_Row_ok, mkL_mkL mk_Answer_ok, mkL_mkL mk_Group_ok, mkL_mkL mk_Int_ok, mkL_mkL mk_Maker_ok, mkL_mkL mk_Row_ok]
def w_Keep (x : Keep) : Int := wL w_Row x.1 + wL w_Maker x.2.1 + wL w_Group x.2.2.1 + wL w_Int x.2.2.2.2.1 + wL w_Answer x.2.2.2.2.2.1
theorem w_Keep_nn (x : Keep) : 0 ≤ w_Keep x := by
  have n0 := wL_nn w_Row_nn x.1
  have n1 := wL_nn w_Maker_nn x.2.1
  have n2 := wL_nn w_Group_nn x.2.2.1
  have n4 := wL_nn w_Int_nn x.2.2.2.2.1
  have n5 := wL_nn w_Answer_nn x.2.2.2.2.2.1
  simp only [w_Keep]; omega
theorem cntT_Keep_le (x : Keep) : cntT_Keep x ≤ 32 * w_Keep x := by
  have n0 := cntL_le cnt_Row_le x.1
  have n1 := cntL_le cnt_Maker_le x.2.1
  have n2 := cntL_le cnt_Group_le x.2.2.1
  have n4 := cntL_le cnt_Int_le x.2.2.2.2.1
  have n5 := cntL_le cnt_Answer_le x.2.2.2.2.2.1
  simp only [w_Keep, cntT_Keep]; omega
noncomputable def laws_eqKeep (a b : Keep) : Bool := same a b
namespace laws_eqKeep
abbrev wf (x0 : zt7) (x1 : zt7) : Prop := wfA [(.val zk4 .f), (.val zk4 .f)] (x0, (x1, ()))
noncomputable def raw (x0 : zt7) (x1 : zt7) : Option zt25 :=
 letB (laws_eqRowS x0.1 x1.1) fun v1 =>
 if (!v1) = true then
  some ((), (false, ()))
 else
  letB (laws_eqMakerS x0.2.1 x1.2.1) fun v2 =>
  if (!v2) = true then
   some ((), (false, ()))
  else
   letB (laws_eqGroupS x0.2.2.1 x1.2.2.1) fun v3 =>
   if (!v3) = true then
    some ((), (false, ()))
   else
    if (!(decide (x0.2.2.2.1 = x1.2.2.2.1))) = true then
     some ((), (false, ()))
    else
     letB (laws_eqIntS x0.2.2.2.2.1 x1.2.2.2.2.1) fun v4 =>
     if (!v4) = true then
      some ((), (false, ()))
     else
      letB (laws_eqAnswerS x0.2.2.2.2.2.1 x1.2.2.2.2.2.1) fun v5 =>
      if (!v5) = true then
       some ((), (false, ()))
      else
       some ((), (true, ()))
theorem eq (x0 x1 : Keep) (_ : wf x0 x1) : raw x0 x1 = some ((), (laws_eqKeep x0 x1, ())) := by
  unfold raw laws_eqKeep
  try simp only [letB]
  by_cases c0 : x0.1 = x1.1
  case neg => rw [if_pos (by rw [laws_eqRowS, same_false.2 c0]; rfl), same_false.2 (fun h => c0 (congrArg (fun z : Keep => z.1) h))]
  rw [if_neg (by rw [laws_eqRowS, same_true.2 c0]; simp)]
  by_cases c1 : x0.2.1 = x1.2.1
  case neg => rw [if_pos (by rw [laws_eqMakerS, same_false.2 c1]; rfl), same_false.2 (fun h => c1 (congrArg (fun z : Keep => z.2.1) h))]
  rw [if_neg (by rw [laws_eqMakerS, same_true.2 c1]; simp)]
  by_cases c2 : x0.2.2.1 = x1.2.2.1
  case neg => rw [if_pos (by rw [laws_eqGroupS, same_false.2 c2]; rfl), same_false.2 (fun h => c2 (congrArg (fun z : Keep => z.2.2.1) h))]
  rw [if_neg (by rw [laws_eqGroupS, same_true.2 c2]; simp)]
  by_cases c3 : x0.2.2.2.1 = x1.2.2.2.1
  case neg => rw [if_pos (by simp [c3]), same_false.2 (fun h => c3 (congrArg (fun z : Keep => z.2.2.2.1) h))]
  rw [if_neg (by simp [c3])]
  by_cases c4 : x0.2.2.2.2.1 = x1.2.2.2.2.1
  case neg => rw [if_pos (by rw [laws_eqIntS, same_false.2 c4]; rfl), same_false.2 (fun h => c4 (congrArg (fun z : Keep => z.2.2.2.2.1) h))]
  rw [if_neg (by rw [laws_eqIntS, same_true.2 c4]; simp)]
  by_cases c5 : x0.2.2.2.2.2.1 = x1.2.2.2.2.2.1
  case neg => rw [if_pos (by rw [laws_eqAnswerS, same_false.2 c5]; rfl), same_false.2 (fun h => c5 (congrArg (fun z : Keep => z.2.2.2.2.2.1) h))]
  rw [if_neg (by rw [laws_eqAnswerS, same_true.2 c5]; simp)]
  rw [same_true.2 (Prod.ext c0 (Prod.ext c1 (Prod.ext c2 (Prod.ext c3 (Prod.ext c4 (Prod.ext c5 rfl))))))]
end laws_eqKeep
def laws_toKeep (x : Keep) : Keep := x
namespace laws_toKeep
def pre (x : Keep) : Bool := laws_toRowS.pre x.1 && laws_toMakerS.pre x.2.1 && laws_toGroupS.pre x.2.2.1 && laws_toIntS.pre x.2.2.2.2.1 && laws_toAnswerS.pre x.2.2.2.2.2.1
abbrev wf (x0 : zt7) : Prop := wfA [(.val zk4 .f)] (x0, ())
noncomputable def raw (x0 : zt7) : Option (Unit × (zt7 × Unit)) :=
 if (laws_toRowS.pre x0.1) = true then
  if (laws_toMakerS.pre x0.2.1) = true then
   if (laws_toGroupS.pre x0.2.2.1) = true then
    if (laws_toIntS.pre x0.2.2.2.2.1) = true then
     if (laws_toAnswerS.pre x0.2.2.2.2.2.1) = true then
      letB (laws_toRowS x0.1) fun v1 =>
      letB (laws_toMakerS x0.2.1) fun v2 =>
      letB (laws_toGroupS x0.2.2.1) fun v3 =>
      letB (laws_toIntS x0.2.2.2.2.1) fun v4 =>
      letB (laws_toAnswerS x0.2.2.2.2.2.1) fun v5 =>
      some ((), ((v1, (v2, (v3, (x0.2.2.2.1, (v4, (v5, ())))))), ()))
     else
      none
    else
     none
   else
    none
  else
   none
 else
  none
theorem eq (x0 : Keep) (_ : wf x0) (hp : pre x0 = true) : raw x0 = some ((), (laws_toKeep x0, ())) := by
  simp only [pre, Bool.and_eq_true] at hp
  unfold raw
  try simp only [letB]
  rw [if_pos hp.1.1.1.1, if_pos hp.1.1.1.2, if_pos hp.1.1.2, if_pos hp.1.2, if_pos hp.2]
  rfl
end laws_toKeep
theorem toKeep_pre {x : Keep} (h : w_Keep x ≤ 16777216) : laws_toKeep.pre x = true := by
  simp only [w_Keep] at h
  have n0 := wL_nn w_Row_nn x.1
  have n1 := wL_nn w_Maker_nn x.2.1
  have n2 := wL_nn w_Group_nn x.2.2.1
  have n4 := wL_nn w_Int_nn x.2.2.2.2.1
  have n5 := wL_nn w_Answer_nn x.2.2.2.2.2.1
  simp only [laws_toKeep.pre, Bool.and_eq_true]
  exact ⟨⟨⟨⟨toRowS_pre (by omega), toMakerS_pre (by omega)⟩, toGroupS_pre (by omega)⟩, toIntS_pre (by omega)⟩, toAnswerS_pre (by omega)⟩
def laws_szKeep (x : Keep) (l : Int) : Int := szN (w_Keep x) l
namespace laws_szKeep
def pre (_ : Keep) (l : Int) : Bool := decide (0 ≤ l) && decide (l ≤ maxLen)
abbrev wf (x0 : zt7) (x1 : Int) : Prop := wfA [(.val zk4 .f), (.val (.int .i64) .f)] (x0, (x1, ()))
noncomputable def raw (x0 : zt7) (x1 : Int) : Option zt22 :=
 if (laws_szRowS.pre x0.1 x1) = true then
  letB (laws_szRowS x0.1 x1) fun v1 =>
  if (decide (v1 < (0 : Int))) = true then
   some ((), ((-1 : Int), ()))
  else
   if (laws_szMakerS.pre x0.2.1 v1) = true then
    letB (laws_szMakerS x0.2.1 v1) fun v2 =>
    if (decide (v2 < (0 : Int))) = true then
     some ((), ((-1 : Int), ()))
    else
     if (laws_szGroupS.pre x0.2.2.1 v2) = true then
      letB (laws_szGroupS x0.2.2.1 v2) fun v3 =>
      if (decide (v3 < (0 : Int))) = true then
       some ((), ((-1 : Int), ()))
      else
       if (laws_szIntS.pre x0.2.2.2.2.1 v3) = true then
        letB (laws_szIntS x0.2.2.2.2.1 v3) fun v4 =>
        if (decide (v4 < (0 : Int))) = true then
         some ((), ((-1 : Int), ()))
        else
         if (laws_szAnswerS.pre x0.2.2.2.2.2.1 v4) = true then
          letB (laws_szAnswerS x0.2.2.2.2.2.1 v4) fun v5 =>
          if (decide (v5 < (0 : Int))) = true then
           some ((), ((-1 : Int), ()))
          else
           some ((), (v5, ()))
         else
          none
       else
        none
     else
      none
   else
    none
 else
  none
theorem eq (x0 : Keep) (x1 : Int) (hw : wf x0 x1) (hp : pre x0 x1 = true) : raw x0 x1 = some ((), (laws_szKeep x0 x1, ())) := by
  simp only [pre, Bool.and_eq_true, decide_eq_true_eq] at hp
  have hM := maxLen_eq
  have t0 := wL_nn w_Row_nn x0.1
  have t1 := wL_nn w_Maker_nn x0.2.1
  have t2 := wL_nn w_Group_nn x0.2.2.1
  have t4 := wL_nn w_Int_nn x0.2.2.2.2.1
  have t5 := wL_nn w_Answer_nn x0.2.2.2.2.2.1
  unfold raw
  try simp only [letB]
  rw [if_pos (show laws_szRowS.pre _ _ = true by simp only [laws_szRowS.pre, Bool.and_eq_true, decide_eq_true_eq]; omega)]
  by_cases c0 : x1 - wL w_Row x0.1 < 0
  · rw [show laws_szRowS x0.1 (x1) = -1 from szN_neg c0, if_pos (by decide), show laws_szKeep x0 x1 = -1 from szN_neg (by simp only [w_Keep]; omega)]
  rw [show laws_szRowS x0.1 (x1) = x1 - wL w_Row x0.1 from szN_pos c0, if_neg (by rw [decide_eq_true_eq]; exact c0)]
  rw [if_pos (show laws_szMakerS.pre _ _ = true by simp only [laws_szMakerS.pre, Bool.and_eq_true, decide_eq_true_eq]; omega)]
  by_cases c1 : x1 - wL w_Row x0.1 - wL w_Maker x0.2.1 < 0
  · rw [show laws_szMakerS x0.2.1 (x1 - wL w_Row x0.1) = -1 from szN_neg c1, if_pos (by decide), show laws_szKeep x0 x1 = -1 from szN_neg (by simp only [w_Keep]; omega)]
  rw [show laws_szMakerS x0.2.1 (x1 - wL w_Row x0.1) = x1 - wL w_Row x0.1 - wL w_Maker x0.2.1 from szN_pos c1, if_neg (by rw [decide_eq_true_eq]; exact c1)]
  rw [if_pos (show laws_szGroupS.pre _ _ = true by simp only [laws_szGroupS.pre, Bool.and_eq_true, decide_eq_true_eq]; omega)]
  by_cases c2 : x1 - wL w_Row x0.1 - wL w_Maker x0.2.1 - wL w_Group x0.2.2.1 < 0
  · rw [show laws_szGroupS x0.2.2.1 (x1 - wL w_Row x0.1 - wL w_Maker x0.2.1) = -1 from szN_neg c2, if_pos (by decide), show laws_szKeep x0 x1 = -1 from szN_neg (by simp only [w_Keep]; omega)]
  rw [show laws_szGroupS x0.2.2.1 (x1 - wL w_Row x0.1 - wL w_Maker x0.2.1) = x1 - wL w_Row x0.1 - wL w_Maker x0.2.1 - wL w_Group x0.2.2.1 from szN_pos c2, if_neg (by rw [decide_eq_true_eq]; exact c2)]
  rw [if_pos (show laws_szIntS.pre _ _ = true by simp only [laws_szIntS.pre, Bool.and_eq_true, decide_eq_true_eq]; omega)]
  by_cases c4 : x1 - wL w_Row x0.1 - wL w_Maker x0.2.1 - wL w_Group x0.2.2.1 - wL w_Int x0.2.2.2.2.1 < 0
  · rw [show laws_szIntS x0.2.2.2.2.1 (x1 - wL w_Row x0.1 - wL w_Maker x0.2.1 - wL w_Group x0.2.2.1) = -1 from szN_neg c4, if_pos (by decide), show laws_szKeep x0 x1 = -1 from szN_neg (by simp only [w_Keep]; omega)]
  rw [show laws_szIntS x0.2.2.2.2.1 (x1 - wL w_Row x0.1 - wL w_Maker x0.2.1 - wL w_Group x0.2.2.1) = x1 - wL w_Row x0.1 - wL w_Maker x0.2.1 - wL w_Group x0.2.2.1 - wL w_Int x0.2.2.2.2.1 from szN_pos c4, if_neg (by rw [decide_eq_true_eq]; exact c4)]
  rw [if_pos (show laws_szAnswerS.pre _ _ = true by simp only [laws_szAnswerS.pre, Bool.and_eq_true, decide_eq_true_eq]; omega)]
  by_cases c5 : x1 - wL w_Row x0.1 - wL w_Maker x0.2.1 - wL w_Group x0.2.2.1 - wL w_Int x0.2.2.2.2.1 - wL w_Answer x0.2.2.2.2.2.1 < 0
  · rw [show laws_szAnswerS x0.2.2.2.2.2.1 (x1 - wL w_Row x0.1 - wL w_Maker x0.2.1 - wL w_Group x0.2.2.1 - wL w_Int x0.2.2.2.2.1) = -1 from szN_neg c5, if_pos (by decide), show laws_szKeep x0 x1 = -1 from szN_neg (by simp only [w_Keep]; omega)]
  rw [show laws_szAnswerS x0.2.2.2.2.2.1 (x1 - wL w_Row x0.1 - wL w_Maker x0.2.1 - wL w_Group x0.2.2.1 - wL w_Int x0.2.2.2.2.1) = x1 - wL w_Row x0.1 - wL w_Maker x0.2.1 - wL w_Group x0.2.2.1 - wL w_Int x0.2.2.2.2.1 - wL w_Answer x0.2.2.2.2.2.1 from szN_pos c5, if_neg (by rw [decide_eq_true_eq]; exact c5)]
  rw [show laws_szKeep x0 x1 = x1 - wL w_Row x0.1 - wL w_Maker x0.2.1 - wL w_Group x0.2.2.1 - wL w_Int x0.2.2.2.2.1 - wL w_Answer x0.2.2.2.2.2.1 from by rw [laws_szKeep, szN_pos (by simp only [w_Keep]; omega)]; simp only [w_Keep]; omega]
end laws_szKeep
def laws_markKeep (x : Keep) (k : Int) : Keep × Int := (mkT_Keep x k, k + cntT_Keep x)
namespace laws_markKeep
def pre (x : Keep) (k : Int) : Bool := decide (0 ≤ k) && decide (k + cntT_Keep x ≤ 134217728)
abbrev wf (x0 : zt7) (x1 : Int) : Prop := wfA [(.mut zk4), (.val (.int .i64) .f)] (x0, (x1, ()))
noncomputable def raw (x0 : zt7) (x1 : Int) : Option ((zt7 × Unit) × (Int × Unit)) :=
 if (laws_markRowS.pre x0.1 x1) = true then
  letB (laws_markRowS x0.1 x1) fun v1 =>
  if (laws_markMakerS.pre x0.2.1 v1.2) = true then
   letB (laws_markMakerS x0.2.1 v1.2) fun v2 =>
   if (laws_markGroupS.pre x0.2.2.1 v2.2) = true then
    letB (laws_markGroupS x0.2.2.1 v2.2) fun v3 =>
    if (laws_markIntS.pre x0.2.2.2.2.1 v3.2) = true then
     letB (laws_markIntS x0.2.2.2.2.1 v3.2) fun v4 =>
     if (laws_markAnswerS.pre x0.2.2.2.2.2.1 v4.2) = true then
      letB (laws_markAnswerS x0.2.2.2.2.2.1 v4.2) fun v5 =>
      some (((v1.1, (v2.1, (v3.1, (x0.2.2.2.1, (v4.1, (v5.1, x0.2.2.2.2.2.2)))))), ()), (v5.2, ()))
     else
      none
    else
     none
   else
    none
  else
   none
 else
  none
theorem eq (x0 : Keep) (x1 : Int) (_ : wf x0 x1) (hp : pre x0 x1 = true) : raw x0 x1 = some (((laws_markKeep x0 x1).1, ()), ((laws_markKeep x0 x1).2, ())) := by
  simp only [pre, Bool.and_eq_true, decide_eq_true_eq] at hp
  simp only [cntT_Keep] at hp
  have n0 := cntL_nn mk_Row_ok x0.1
  have n1 := cntL_nn mk_Maker_ok x0.2.1
  have n2 := cntL_nn mk_Group_ok x0.2.2.1
  have n4 := cntL_nn mk_Int_ok x0.2.2.2.2.1
  have n5 := cntL_nn mk_Answer_ok x0.2.2.2.2.2.1
  have q0 : laws_markRowS.pre x0.1 (x1) = true := markRowS_pre (by omega) (by omega)
  have q1 : laws_markMakerS.pre x0.2.1 (x1 + cntL cnt_Row x0.1) = true := markMakerS_pre (by omega) (by omega)
  have q2 : laws_markGroupS.pre x0.2.2.1 (x1 + cntL cnt_Row x0.1 + cntL cnt_Maker x0.2.1) = true := markGroupS_pre (by omega) (by omega)
  have q4 : laws_markIntS.pre x0.2.2.2.2.1 (x1 + cntL cnt_Row x0.1 + cntL cnt_Maker x0.2.1 + cntL cnt_Group x0.2.2.1) = true := markIntS_pre (by omega) (by omega)
  have q5 : laws_markAnswerS.pre x0.2.2.2.2.2.1 (x1 + cntL cnt_Row x0.1 + cntL cnt_Maker x0.2.1 + cntL cnt_Group x0.2.2.1 + cntL cnt_Int x0.2.2.2.2.1) = true := markAnswerS_pre (by omega) (by omega)
  unfold raw
  simp only [letB, if_true, q0, q1, q2, q4, q5, markAnswerS_eq, markGroupS_eq, markIntS_eq, markMakerS_eq, markRowS_eq]
  refine congrArg some (Prod.ext rfl (Prod.ext ?_ rfl))
  show _ = _
  simp only [laws_markKeep, cntT_Keep]; omega
end laws_markKeep
theorem markKeep_eq (x : Keep) (k : Int) : laws_markKeep x k = (mkT_Keep x k, k + cntT_Keep x) := rfl
theorem markKeep_pre {x : Keep} {k : Int} (h0 : 0 ≤ k) (h1 : k + cntT_Keep x ≤ 134217728) : laws_markKeep.pre x k = true := by simp [laws_markKeep.pre, h0, h1]
noncomputable def laws_heldKeep (x : Keep) (k : Int) : Int := heldN mkT_Keep cntT_Keep x k
namespace laws_heldKeep
def pre (x : Keep) (k : Int) : Bool := decide (0 ≤ k) && decide (k + cntT_Keep x ≤ 134217728)
abbrev wf (x0 : zt7) (x1 : Int) : Prop := wfA [(.val zk4 .f), (.val (.int .i64) .f)] (x0, (x1, ()))
noncomputable def raw (x0 : zt7) (x1 : Int) : Option zt22 :=
 if (laws_heldRowS.pre x0.1 x1) = true then
  letB (laws_heldRowS x0.1 x1) fun v1 =>
  if (decide (v1 < (0 : Int))) = true then
   some ((), ((-1 : Int), ()))
  else
   if (laws_heldMakerS.pre x0.2.1 v1) = true then
    letB (laws_heldMakerS x0.2.1 v1) fun v2 =>
    if (decide (v2 < (0 : Int))) = true then
     some ((), ((-1 : Int), ()))
    else
     if (laws_heldGroupS.pre x0.2.2.1 v2) = true then
      letB (laws_heldGroupS x0.2.2.1 v2) fun v3 =>
      if (decide (v3 < (0 : Int))) = true then
       some ((), ((-1 : Int), ()))
      else
       if (laws_heldIntS.pre x0.2.2.2.2.1 v3) = true then
        letB (laws_heldIntS x0.2.2.2.2.1 v3) fun v4 =>
        if (decide (v4 < (0 : Int))) = true then
         some ((), ((-1 : Int), ()))
        else
         if (laws_heldAnswerS.pre x0.2.2.2.2.2.1 v4) = true then
          letB (laws_heldAnswerS x0.2.2.2.2.2.1 v4) fun v5 =>
          if (decide (v5 < (0 : Int))) = true then
           some ((), ((-1 : Int), ()))
          else
           some ((), (v5, ()))
         else
          none
       else
        none
     else
      none
   else
    none
 else
  none
theorem eq (x0 : Keep) (x1 : Int) (_ : wf x0 x1) (hp : pre x0 x1 = true) : raw x0 x1 = some ((), (laws_heldKeep x0 x1, ())) := by
  simp only [pre, Bool.and_eq_true, decide_eq_true_eq] at hp
  simp only [cntT_Keep] at hp
  have n0 := cntL_nn mk_Row_ok x0.1
  have n1 := cntL_nn mk_Maker_ok x0.2.1
  have n2 := cntL_nn mk_Group_ok x0.2.2.1
  have n4 := cntL_nn mk_Int_ok x0.2.2.2.2.1
  have n5 := cntL_nn mk_Answer_ok x0.2.2.2.2.2.1
  have q0 : laws_heldRowS.pre x0.1 (x1) = true := heldRowS_pre (by omega) (by omega)
  have q1 : laws_heldMakerS.pre x0.2.1 (x1 + cntL cnt_Row x0.1) = true := heldMakerS_pre (by omega) (by omega)
  have q2 : laws_heldGroupS.pre x0.2.2.1 (x1 + cntL cnt_Row x0.1 + cntL cnt_Maker x0.2.1) = true := heldGroupS_pre (by omega) (by omega)
  have q4 : laws_heldIntS.pre x0.2.2.2.2.1 (x1 + cntL cnt_Row x0.1 + cntL cnt_Maker x0.2.1 + cntL cnt_Group x0.2.2.1) = true := heldIntS_pre (by omega) (by omega)
  have q5 : laws_heldAnswerS.pre x0.2.2.2.2.2.1 (x1 + cntL cnt_Row x0.1 + cntL cnt_Maker x0.2.1 + cntL cnt_Group x0.2.2.1 + cntL cnt_Int x0.2.2.2.2.1) = true := heldAnswerS_pre (by omega) (by omega)
  unfold raw laws_heldKeep
  simp only [letB, if_true, q0, q1, q2, q4, q5]
  by_cases c0 : x0.1 = mkL mk_Row cnt_Row x0.1 (x1)
  case neg => rw [show laws_heldRowS x0.1 (x1) = -1 from heldRowS_neg c0, if_pos (by decide), heldN_neg (fun h => c0 (congrArg (fun z : Keep => z.1) h))]
  rw [show laws_heldRowS x0.1 (x1) = x1 + cntL cnt_Row x0.1 from heldRowS_pos c0, if_neg (by rw [decide_eq_true_eq]; omega)]
  try simp only [if_true, q0, q1, q2, q4, q5]
  by_cases c1 : x0.2.1 = mkL mk_Maker cnt_Maker x0.2.1 (x1 + cntL cnt_Row x0.1)
  case neg => rw [show laws_heldMakerS x0.2.1 (x1 + cntL cnt_Row x0.1) = -1 from heldMakerS_neg c1, if_pos (by decide), heldN_neg (fun h => c1 (congrArg (fun z : Keep => z.2.1) h))]
  rw [show laws_heldMakerS x0.2.1 (x1 + cntL cnt_Row x0.1) = x1 + cntL cnt_Row x0.1 + cntL cnt_Maker x0.2.1 from heldMakerS_pos c1, if_neg (by rw [decide_eq_true_eq]; omega)]
  try simp only [if_true, q0, q1, q2, q4, q5]
  by_cases c2 : x0.2.2.1 = mkL mk_Group cnt_Group x0.2.2.1 (x1 + cntL cnt_Row x0.1 + cntL cnt_Maker x0.2.1)
  case neg => rw [show laws_heldGroupS x0.2.2.1 (x1 + cntL cnt_Row x0.1 + cntL cnt_Maker x0.2.1) = -1 from heldGroupS_neg c2, if_pos (by decide), heldN_neg (fun h => c2 (congrArg (fun z : Keep => z.2.2.1) h))]
  rw [show laws_heldGroupS x0.2.2.1 (x1 + cntL cnt_Row x0.1 + cntL cnt_Maker x0.2.1) = x1 + cntL cnt_Row x0.1 + cntL cnt_Maker x0.2.1 + cntL cnt_Group x0.2.2.1 from heldGroupS_pos c2, if_neg (by rw [decide_eq_true_eq]; omega)]
  try simp only [if_true, q0, q1, q2, q4, q5]
  by_cases c4 : x0.2.2.2.2.1 = mkL mk_Int cnt_Int x0.2.2.2.2.1 (x1 + cntL cnt_Row x0.1 + cntL cnt_Maker x0.2.1 + cntL cnt_Group x0.2.2.1)
  case neg => rw [show laws_heldIntS x0.2.2.2.2.1 (x1 + cntL cnt_Row x0.1 + cntL cnt_Maker x0.2.1 + cntL cnt_Group x0.2.2.1) = -1 from heldIntS_neg c4, if_pos (by decide), heldN_neg (fun h => c4 (congrArg (fun z : Keep => z.2.2.2.2.1) h))]
  rw [show laws_heldIntS x0.2.2.2.2.1 (x1 + cntL cnt_Row x0.1 + cntL cnt_Maker x0.2.1 + cntL cnt_Group x0.2.2.1) = x1 + cntL cnt_Row x0.1 + cntL cnt_Maker x0.2.1 + cntL cnt_Group x0.2.2.1 + cntL cnt_Int x0.2.2.2.2.1 from heldIntS_pos c4, if_neg (by rw [decide_eq_true_eq]; omega)]
  try simp only [if_true, q0, q1, q2, q4, q5]
  by_cases c5 : x0.2.2.2.2.2.1 = mkL mk_Answer cnt_Answer x0.2.2.2.2.2.1 (x1 + cntL cnt_Row x0.1 + cntL cnt_Maker x0.2.1 + cntL cnt_Group x0.2.2.1 + cntL cnt_Int x0.2.2.2.2.1)
  case neg => rw [show laws_heldAnswerS x0.2.2.2.2.2.1 (x1 + cntL cnt_Row x0.1 + cntL cnt_Maker x0.2.1 + cntL cnt_Group x0.2.2.1 + cntL cnt_Int x0.2.2.2.2.1) = -1 from heldAnswerS_neg c5, if_pos (by decide), heldN_neg (fun h => c5 (congrArg (fun z : Keep => z.2.2.2.2.2.1) h))]
  rw [show laws_heldAnswerS x0.2.2.2.2.2.1 (x1 + cntL cnt_Row x0.1 + cntL cnt_Maker x0.2.1 + cntL cnt_Group x0.2.2.1 + cntL cnt_Int x0.2.2.2.2.1) = x1 + cntL cnt_Row x0.1 + cntL cnt_Maker x0.2.1 + cntL cnt_Group x0.2.2.1 + cntL cnt_Int x0.2.2.2.2.1 + cntL cnt_Answer x0.2.2.2.2.2.1 from heldAnswerS_pos c5, if_neg (by rw [decide_eq_true_eq]; omega)]
  rw [heldN_pos (m := mkT_Keep) (g := cntT_Keep) (Prod.ext c0 (Prod.ext c1 (Prod.ext c2 (Prod.ext rfl (Prod.ext c4 (Prod.ext c5 rfl)))))), show x1 + cntL cnt_Row x0.1 + cntL cnt_Maker x0.2.1 + cntL cnt_Group x0.2.2.1 + cntL cnt_Int x0.2.2.2.2.1 + cntL cnt_Answer x0.2.2.2.2.2.1 = x1 + cntT_Keep x0 by simp only [cntT_Keep]; omega]
end laws_heldKeep
theorem heldKeep_pos {x : Keep} {k : Int} (h : x = mkT_Keep x k) : laws_heldKeep x k = k + cntT_Keep x := heldN_pos h
theorem heldKeep_neg {x : Keep} {k : Int} (h : ¬ x = mkT_Keep x k) : laws_heldKeep x k = -1 := heldN_neg h
theorem heldKeep_pre {x : Keep} {k : Int} (h0 : 0 ≤ k) (h1 : k + cntT_Keep x ≤ 134217728) : laws_heldKeep.pre x k = true := by simp [laws_heldKeep.pre, h0, h1]
def mkT_Hard (x : Hard) (k : Int) : Hard := (x.1, (x.2.1, (mkT_Log x.2.2.1 (k), (mkT_Keep x.2.2.2.1 (k + cntT_Log x.2.2.1), ()))))
def cntT_Hard (x : Hard) : Int := cntT_Log x.2.2.1 + cntT_Keep x.2.2.2.1
theorem cntT_Hard_nn (x : Hard) : 0 ≤ cntT_Hard x := by
  have n2 := cntT_Log_nn x.2.2.1
  have n3 := cntT_Keep_nn x.2.2.2.1
  simp only [cntT_Hard]; omega
theorem mkT_Hard_keep (x : Hard) (k : Int) : cntT_Hard (mkT_Hard x k) = cntT_Hard x := by simp only [cntT_Hard, mkT_Hard, mkT_Keep_keep, mkT_Log_keep]
theorem mkT_Hard_idem (x : Hard) (k : Int) : mkT_Hard (mkT_Hard x k) k = mkT_Hard x k := by simp only [mkT_Hard, mkT_Keep_keep, mkT_Log_keep, mkT_Keep_idem, mkT_Log_idem]
def w_Hard (x : Hard) : Int := w_Log x.2.2.1 + w_Keep x.2.2.2.1
theorem w_Hard_nn (x : Hard) : 0 ≤ w_Hard x := by
  have n2 := w_Log_nn x.2.2.1
  have n3 := w_Keep_nn x.2.2.2.1
  simp only [w_Hard]; omega
noncomputable def laws_eqHard (a b : Hard) : Bool := same a b
namespace laws_eqHard
abbrev wf (x0 : zt23) (x1 : zt23) : Prop := wfA [(.val zk26 .f), (.val zk26 .f)] (x0, (x1, ()))
noncomputable def raw (x0 : zt23) (x1 : zt23) : Option zt25 :=
 if (!(decide (x0.1 = x1.1))) = true then
  some ((), (false, ()))
 else
  if (!(decide (x0.2.1 = x1.2.1))) = true then
   some ((), (false, ()))
  else
   letB (laws_eqLog x0.2.2.1 x1.2.2.1) fun v1 =>
   if (!v1) = true then
    some ((), (false, ()))
   else
    letB (laws_eqKeep x0.2.2.2.1 x1.2.2.2.1) fun v2 =>
    if (!v2) = true then
     some ((), (false, ()))
    else
     some ((), (true, ()))
theorem eq (x0 x1 : Hard) (_ : wf x0 x1) : raw x0 x1 = some ((), (laws_eqHard x0 x1, ())) := by
  unfold raw laws_eqHard
  try simp only [letB]
  by_cases c0 : x0.1 = x1.1
  case neg => rw [if_pos (by simp [c0]), same_false.2 (fun h => c0 (congrArg (fun z : Hard => z.1) h))]
  rw [if_neg (by simp [c0])]
  by_cases c1 : x0.2.1 = x1.2.1
  case neg => rw [if_pos (by simp [c1]), same_false.2 (fun h => c1 (congrArg (fun z : Hard => z.2.1) h))]
  rw [if_neg (by simp [c1])]
  by_cases c2 : x0.2.2.1 = x1.2.2.1
  case neg => rw [if_pos (by rw [laws_eqLog, same_false.2 c2]; rfl), same_false.2 (fun h => c2 (congrArg (fun z : Hard => z.2.2.1) h))]
  rw [if_neg (by rw [laws_eqLog, same_true.2 c2]; simp)]
  by_cases c3 : x0.2.2.2.1 = x1.2.2.2.1
  case neg => rw [if_pos (by rw [laws_eqKeep, same_false.2 c3]; rfl), same_false.2 (fun h => c3 (congrArg (fun z : Hard => z.2.2.2.1) h))]
  rw [if_neg (by rw [laws_eqKeep, same_true.2 c3]; simp)]
  rw [same_true.2 (Prod.ext c0 (Prod.ext c1 (Prod.ext c2 (Prod.ext c3 rfl))))]
end laws_eqHard
def laws_toHard (x : Hard) : Hard := x
namespace laws_toHard
def pre (x : Hard) : Bool := laws_toLog.pre x.2.2.1 && laws_toKeep.pre x.2.2.2.1
abbrev wf (x0 : zt23) : Prop := wfA [(.val zk26 .f)] (x0, ())
noncomputable def raw (x0 : zt23) : Option (Unit × (zt23 × Unit)) :=
 if (laws_toLog.pre x0.2.2.1) = true then
  if (laws_toKeep.pre x0.2.2.2.1) = true then
   letB (laws_toLog x0.2.2.1) fun v1 =>
   letB (laws_toKeep x0.2.2.2.1) fun v2 =>
   some ((), ((x0.1, (x0.2.1, (v1, (v2, ())))), ()))
  else
   none
 else
  none
theorem eq (x0 : Hard) (_ : wf x0) (hp : pre x0 = true) : raw x0 = some ((), (laws_toHard x0, ())) := by
  simp only [pre, Bool.and_eq_true] at hp
  unfold raw
  try simp only [letB]
  rw [if_pos hp.1, if_pos hp.2]
  rfl
end laws_toHard
theorem toHard_pre {x : Hard} (h : w_Hard x ≤ 16777216) : laws_toHard.pre x = true := by
  simp only [w_Hard] at h
  have n2 := w_Log_nn x.2.2.1
  have n3 := w_Keep_nn x.2.2.2.1
  simp only [laws_toHard.pre, Bool.and_eq_true]
  exact ⟨toLog_pre (by omega), toKeep_pre (by omega)⟩
def laws_szHard (x : Hard) (l : Int) : Int := szN (w_Hard x) l
namespace laws_szHard
def pre (_ : Hard) (l : Int) : Bool := decide (0 ≤ l) && decide (l ≤ maxLen)
abbrev wf (x0 : zt23) (x1 : Int) : Prop := wfA [(.val zk26 .f), (.val (.int .i64) .f)] (x0, (x1, ()))
noncomputable def raw (x0 : zt23) (x1 : Int) : Option zt22 :=
 if (laws_szLog.pre x0.2.2.1 x1) = true then
  letB (laws_szLog x0.2.2.1 x1) fun v1 =>
  if (decide (v1 < (0 : Int))) = true then
   some ((), ((-1 : Int), ()))
  else
   if (laws_szKeep.pre x0.2.2.2.1 v1) = true then
    letB (laws_szKeep x0.2.2.2.1 v1) fun v2 =>
    if (decide (v2 < (0 : Int))) = true then
     some ((), ((-1 : Int), ()))
    else
     some ((), (v2, ()))
   else
    none
 else
  none
theorem eq (x0 : Hard) (x1 : Int) (hw : wf x0 x1) (hp : pre x0 x1 = true) : raw x0 x1 = some ((), (laws_szHard x0 x1, ())) := by
  simp only [pre, Bool.and_eq_true, decide_eq_true_eq] at hp
  have hM := maxLen_eq
  have t2 := w_Log_nn x0.2.2.1
  have t3 := w_Keep_nn x0.2.2.2.1
  unfold raw
  try simp only [letB]
  rw [if_pos (show laws_szLog.pre _ _ = true by simp only [laws_szLog.pre, Bool.and_eq_true, decide_eq_true_eq]; omega)]
  by_cases c2 : x1 - w_Log x0.2.2.1 < 0
  · rw [show laws_szLog x0.2.2.1 (x1) = -1 from szN_neg c2, if_pos (by decide), show laws_szHard x0 x1 = -1 from szN_neg (by simp only [w_Hard]; omega)]
  rw [show laws_szLog x0.2.2.1 (x1) = x1 - w_Log x0.2.2.1 from szN_pos c2, if_neg (by rw [decide_eq_true_eq]; exact c2)]
  rw [if_pos (show laws_szKeep.pre _ _ = true by simp only [laws_szKeep.pre, Bool.and_eq_true, decide_eq_true_eq]; omega)]
  by_cases c3 : x1 - w_Log x0.2.2.1 - w_Keep x0.2.2.2.1 < 0
  · rw [show laws_szKeep x0.2.2.2.1 (x1 - w_Log x0.2.2.1) = -1 from szN_neg c3, if_pos (by decide), show laws_szHard x0 x1 = -1 from szN_neg (by simp only [w_Hard]; omega)]
  rw [show laws_szKeep x0.2.2.2.1 (x1 - w_Log x0.2.2.1) = x1 - w_Log x0.2.2.1 - w_Keep x0.2.2.2.1 from szN_pos c3, if_neg (by rw [decide_eq_true_eq]; exact c3)]
  rw [show laws_szHard x0 x1 = x1 - w_Log x0.2.2.1 - w_Keep x0.2.2.2.1 from by rw [laws_szHard, szN_pos (by simp only [w_Hard]; omega)]; simp only [w_Hard]; omega]
end laws_szHard
def laws_markHard (x : Hard) (k : Int) : Hard × Int := (mkT_Hard x k, k + cntT_Hard x)
namespace laws_markHard
def pre (x : Hard) (k : Int) : Bool := decide (0 ≤ k) && decide (k + cntT_Hard x ≤ 134217728)
abbrev wf (x0 : zt23) (x1 : Int) : Prop := wfA [(.mut zk26), (.val (.int .i64) .f)] (x0, (x1, ()))
noncomputable def raw (x0 : zt23) (x1 : Int) : Option ((zt23 × Unit) × (Int × Unit)) :=
 if (laws_markLog.pre x0.2.2.1 x1) = true then
  letB (laws_markLog x0.2.2.1 x1) fun v1 =>
  if (laws_markKeep.pre x0.2.2.2.1 v1.2) = true then
   letB (laws_markKeep x0.2.2.2.1 v1.2) fun v2 =>
   some (((x0.1, (x0.2.1, ((x0.2.2.1.1, (x0.2.2.1.2.1, (v1.1.2.2.1, x0.2.2.1.2.2.2))), ((v2.1.1, (v2.1.2.1, (v2.1.2.2.1, (x0.2.2.2.1.2.2.2.1, (v2.1.2.2.2.2.1, (v2.1.2.2.2.2.2.1, x0.2.2.2.1.2.2.2.2.2.2)))))), x0.2.2.2.2)))), ()), (v2.2, ()))
  else
   none
 else
  none
theorem eq (x0 : Hard) (x1 : Int) (_ : wf x0 x1) (hp : pre x0 x1 = true) : raw x0 x1 = some (((laws_markHard x0 x1).1, ()), ((laws_markHard x0 x1).2, ())) := by
  simp only [pre, Bool.and_eq_true, decide_eq_true_eq] at hp
  simp only [cntT_Hard] at hp
  have n2 := cntT_Log_nn x0.2.2.1
  have n3 := cntT_Keep_nn x0.2.2.2.1
  have q2 : laws_markLog.pre x0.2.2.1 (x1) = true := markLogK_pre (by omega) (by omega)
  have q3 : laws_markKeep.pre x0.2.2.2.1 (x1 + cntT_Log x0.2.2.1) = true := markKeep_pre (by omega) (by omega)
  unfold raw
  simp only [letB, if_true, q2, q3, markKeep_eq, markLog_eq]
  refine congrArg some (Prod.ext rfl (Prod.ext ?_ rfl))
  show _ = _
  simp only [laws_markHard, cntT_Hard]; omega
end laws_markHard
theorem markHard_eq (x : Hard) (k : Int) : laws_markHard x k = (mkT_Hard x k, k + cntT_Hard x) := rfl
theorem markHard_pre {x : Hard} {k : Int} (h0 : 0 ≤ k) (h1 : k + cntT_Hard x ≤ 134217728) : laws_markHard.pre x k = true := by simp [laws_markHard.pre, h0, h1]
noncomputable def laws_heldHard (x : Hard) (k : Int) : Int := heldN mkT_Hard cntT_Hard x k
namespace laws_heldHard
def pre (x : Hard) (k : Int) : Bool := decide (0 ≤ k) && decide (k + cntT_Hard x ≤ 134217728)
abbrev wf (x0 : zt23) (x1 : Int) : Prop := wfA [(.val zk26 .f), (.val (.int .i64) .f)] (x0, (x1, ()))
noncomputable def raw (x0 : zt23) (x1 : Int) : Option zt22 :=
 if (laws_heldLog.pre x0.2.2.1 x1) = true then
  letB (laws_heldLog x0.2.2.1 x1) fun v1 =>
  if (decide (v1 < (0 : Int))) = true then
   some ((), ((-1 : Int), ()))
  else
   if (laws_heldKeep.pre x0.2.2.2.1 v1) = true then
    letB (laws_heldKeep x0.2.2.2.1 v1) fun v2 =>
    if (decide (v2 < (0 : Int))) = true then
     some ((), ((-1 : Int), ()))
    else
     some ((), (v2, ()))
   else
    none
 else
  none
theorem eq (x0 : Hard) (x1 : Int) (_ : wf x0 x1) (hp : pre x0 x1 = true) : raw x0 x1 = some ((), (laws_heldHard x0 x1, ())) := by
  simp only [pre, Bool.and_eq_true, decide_eq_true_eq] at hp
  simp only [cntT_Hard] at hp
  have n2 := cntT_Log_nn x0.2.2.1
  have n3 := cntT_Keep_nn x0.2.2.2.1
  have q2 : laws_heldLog.pre x0.2.2.1 (x1) = true := heldLogK_pre (by omega) (by omega)
  have q3 : laws_heldKeep.pre x0.2.2.2.1 (x1 + cntT_Log x0.2.2.1) = true := heldKeep_pre (by omega) (by omega)
  unfold raw laws_heldHard
  simp only [letB, if_true, q2, q3]
  by_cases c2 : x0.2.2.1 = mkT_Log x0.2.2.1 (x1)
  case neg => rw [show laws_heldLog x0.2.2.1 (x1) = -1 from heldLog_neg c2, if_pos (by decide), heldN_neg (fun h => c2 (congrArg (fun z : Hard => z.2.2.1) h))]
  rw [show laws_heldLog x0.2.2.1 (x1) = x1 + cntT_Log x0.2.2.1 from heldLog_pos c2 (by omega), if_neg (by rw [decide_eq_true_eq]; omega)]
  try simp only [if_true, q2, q3]
  by_cases c3 : x0.2.2.2.1 = mkT_Keep x0.2.2.2.1 (x1 + cntT_Log x0.2.2.1)
  case neg => rw [show laws_heldKeep x0.2.2.2.1 (x1 + cntT_Log x0.2.2.1) = -1 from heldKeep_neg c3, if_pos (by decide), heldN_neg (fun h => c3 (congrArg (fun z : Hard => z.2.2.2.1) h))]
  rw [show laws_heldKeep x0.2.2.2.1 (x1 + cntT_Log x0.2.2.1) = x1 + cntT_Log x0.2.2.1 + cntT_Keep x0.2.2.2.1 from heldKeep_pos c3, if_neg (by rw [decide_eq_true_eq]; omega)]
  rw [heldN_pos (m := mkT_Hard) (g := cntT_Hard) (Prod.ext rfl (Prod.ext rfl (Prod.ext c2 (Prod.ext c3 rfl)))), show x1 + cntT_Log x0.2.2.1 + cntT_Keep x0.2.2.2.1 = x1 + cntT_Hard x0 by simp only [cntT_Hard]; omega]
end laws_heldHard
theorem heldHard_pos {x : Hard} {k : Int} (h : x = mkT_Hard x k) : laws_heldHard x k = k + cntT_Hard x := heldN_pos h
theorem heldHard_neg {x : Hard} {k : Int} (h : ¬ x = mkT_Hard x k) : laws_heldHard x k = -1 := heldN_neg h
theorem heldHard_pre {x : Hard} {k : Int} (h0 : 0 ≤ k) (h1 : k + cntT_Hard x ≤ 134217728) : laws_heldHard.pre x k = true := by simp [laws_heldHard.pre, h0, h1]
theorem cntT_Hard_le (x : Hard) : cntT_Hard x ≤ 32 * w_Hard x := by
  have n2 := cntT_Log_le x.2.2.1
  have n3 := cntT_Keep_le x.2.2.2.1
  simp only [w_Hard, cntT_Hard]; omega
def mkT_Disk (x : Disk) (k : Int) : Disk := (mkL mk_Byte cnt_Byte x.1 (k), (x.2.1, ()))
def cntT_Disk (x : Disk) : Int := cntL cnt_Byte x.1
theorem cntT_Disk_nn (x : Disk) : 0 ≤ cntT_Disk x := by
  have n0 := cntL_nn mk_Byte_ok x.1
  simp only [cntT_Disk]; omega
theorem mkT_Disk_keep (x : Disk) (k : Int) : cntT_Disk (mkT_Disk x k) = cntT_Disk x := by simp only [cntT_Disk, mkT_Disk, cntL_mkL mk_Byte_ok]
theorem mkT_Disk_idem (x : Disk) (k : Int) : mkT_Disk (mkT_Disk x k) k = mkT_Disk x k := by simp only [mkT_Disk, cntL_mkL mk_Byte_ok, mkL_mkL mk_Byte_ok]
def w_Disk (x : Disk) : Int := wL w_Byte x.1
theorem w_Disk_nn (x : Disk) : 0 ≤ w_Disk x := by
  have n0 := wL_nn w_Byte_nn x.1
  simp only [w_Disk]; omega
noncomputable def laws_eqDisk (a b : Disk) : Bool := same a b
namespace laws_eqDisk
abbrev wf (x0 : Disk) (x1 : Disk) : Prop := wfA [(.val zk32 .f), (.val zk32 .f)] (x0, (x1, ()))
noncomputable def raw (x0 : Disk) (x1 : Disk) : Option zt25 :=
 letB (laws_eqByteS x0.1 x1.1) fun v1 =>
 if (!v1) = true then
  some ((), (false, ()))
 else
  if (!(decide (x0.2.1 = x1.2.1))) = true then
   some ((), (false, ()))
  else
   some ((), (true, ()))
theorem eq (x0 x1 : Disk) (_ : wf x0 x1) : raw x0 x1 = some ((), (laws_eqDisk x0 x1, ())) := by
  unfold raw laws_eqDisk
  try simp only [letB]
  by_cases c0 : x0.1 = x1.1
  case neg => rw [if_pos (by rw [laws_eqByteS, same_false.2 c0]; rfl), same_false.2 (fun h => c0 (congrArg (fun z : Disk => z.1) h))]
  rw [if_neg (by rw [laws_eqByteS, same_true.2 c0]; simp)]
  by_cases c1 : x0.2.1 = x1.2.1
  case neg => rw [if_pos (by simp [c1]), same_false.2 (fun h => c1 (congrArg (fun z : Disk => z.2.1) h))]
  rw [if_neg (by simp [c1])]
  rw [same_true.2 (Prod.ext c0 (Prod.ext c1 rfl))]
end laws_eqDisk
def laws_toDisk (x : Disk) : Disk := x
namespace laws_toDisk
def pre (x : Disk) : Bool := laws_toByteS.pre x.1
abbrev wf (x0 : Disk) : Prop := wfA [(.val zk32 .f)] (x0, ())
noncomputable def raw (x0 : Disk) : Option (Unit × (Disk × Unit)) :=
 if (laws_toByteS.pre x0.1) = true then
  letB (laws_toByteS x0.1) fun v1 =>
  some ((), ((v1, x0.2), ()))
 else
  none
theorem eq (x0 : Disk) (_ : wf x0) (hp : pre x0 = true) : raw x0 = some ((), (laws_toDisk x0, ())) := by
  simp only [pre, Bool.and_eq_true] at hp
  unfold raw
  try simp only [letB]
  rw [if_pos hp]
  rfl
end laws_toDisk
theorem toDisk_pre {x : Disk} (h : w_Disk x ≤ 16777216) : laws_toDisk.pre x = true := by
  simp only [w_Disk] at h
  have n0 := wL_nn w_Byte_nn x.1
  simp only [laws_toDisk.pre, Bool.and_eq_true]
  exact toByteS_pre (by omega)
def laws_szDisk (x : Disk) (l : Int) : Int := szN (w_Disk x) l
namespace laws_szDisk
def pre (_ : Disk) (l : Int) : Bool := decide (0 ≤ l) && decide (l ≤ maxLen)
abbrev wf (x0 : Disk) (x1 : Int) : Prop := wfA [(.val zk32 .f), (.val (.int .i64) .f)] (x0, (x1, ()))
noncomputable def raw (x0 : Disk) (x1 : Int) : Option zt22 :=
 if (laws_szByteS.pre x0.1 x1) = true then
  letB (laws_szByteS x0.1 x1) fun v1 =>
  if (decide (v1 < (0 : Int))) = true then
   some ((), ((-1 : Int), ()))
  else
   some ((), (v1, ()))
 else
  none
theorem eq (x0 : Disk) (x1 : Int) (hw : wf x0 x1) (hp : pre x0 x1 = true) : raw x0 x1 = some ((), (laws_szDisk x0 x1, ())) := by
  simp only [pre, Bool.and_eq_true, decide_eq_true_eq] at hp
  have hM := maxLen_eq
  have t0 := wL_nn w_Byte_nn x0.1
  unfold raw
  try simp only [letB]
  rw [if_pos (show laws_szByteS.pre _ _ = true by simp only [laws_szByteS.pre, Bool.and_eq_true, decide_eq_true_eq]; omega)]
  by_cases c0 : x1 - wL w_Byte x0.1 < 0
  · rw [show laws_szByteS x0.1 (x1) = -1 from szN_neg c0, if_pos (by decide), show laws_szDisk x0 x1 = -1 from szN_neg (by simp only [w_Disk]; omega)]
  rw [show laws_szByteS x0.1 (x1) = x1 - wL w_Byte x0.1 from szN_pos c0, if_neg (by rw [decide_eq_true_eq]; exact c0)]
  rw [show laws_szDisk x0 x1 = x1 - wL w_Byte x0.1 from by rw [laws_szDisk, szN_pos (by simp only [w_Disk]; omega)]; simp only [w_Disk]]
end laws_szDisk
def laws_markDisk (x : Disk) (k : Int) : Disk × Int := (mkT_Disk x k, k + cntT_Disk x)
namespace laws_markDisk
def pre (x : Disk) (k : Int) : Bool := decide (0 ≤ k) && decide (k + cntT_Disk x ≤ 134217728)
abbrev wf (x0 : Disk) (x1 : Int) : Prop := wfA [(.mut zk32), (.val (.int .i64) .f)] (x0, (x1, ()))
noncomputable def raw (x0 : Disk) (x1 : Int) : Option ((Disk × Unit) × (Int × Unit)) :=
 if (laws_markByteS.pre x0.1 x1) = true then
  letB (laws_markByteS x0.1 x1) fun v1 =>
  some (((v1.1, x0.2), ()), (v1.2, ()))
 else
  none
theorem eq (x0 : Disk) (x1 : Int) (_ : wf x0 x1) (hp : pre x0 x1 = true) : raw x0 x1 = some (((laws_markDisk x0 x1).1, ()), ((laws_markDisk x0 x1).2, ())) := by
  simp only [pre, Bool.and_eq_true, decide_eq_true_eq] at hp
  simp only [cntT_Disk] at hp
  have n0 := cntL_nn mk_Byte_ok x0.1
  have q0 : laws_markByteS.pre x0.1 (x1) = true := markByteS_pre (by omega) (by omega)
  unfold raw
  simp only [letB, if_true, q0, markByteS_eq]
  refine congrArg some (Prod.ext rfl (Prod.ext ?_ rfl))
  show _ = _
  simp only [laws_markDisk, cntT_Disk]
end laws_markDisk
theorem markDisk_eq (x : Disk) (k : Int) : laws_markDisk x k = (mkT_Disk x k, k + cntT_Disk x) := rfl
theorem markDisk_pre {x : Disk} {k : Int} (h0 : 0 ≤ k) (h1 : k + cntT_Disk x ≤ 134217728) : laws_markDisk.pre x k = true := by simp [laws_markDisk.pre, h0, h1]
noncomputable def laws_heldDisk (x : Disk) (k : Int) : Int := heldN mkT_Disk cntT_Disk x k
namespace laws_heldDisk
def pre (x : Disk) (k : Int) : Bool := decide (0 ≤ k) && decide (k + cntT_Disk x ≤ 134217728)
abbrev wf (x0 : Disk) (x1 : Int) : Prop := wfA [(.val zk32 .f), (.val (.int .i64) .f)] (x0, (x1, ()))
noncomputable def raw (x0 : Disk) (x1 : Int) : Option zt22 :=
 if (laws_heldByteS.pre x0.1 x1) = true then
  letB (laws_heldByteS x0.1 x1) fun v1 =>
  if (decide (v1 < (0 : Int))) = true then
   some ((), ((-1 : Int), ()))
  else
   some ((), (v1, ()))
 else
  none
theorem eq (x0 : Disk) (x1 : Int) (_ : wf x0 x1) (hp : pre x0 x1 = true) : raw x0 x1 = some ((), (laws_heldDisk x0 x1, ())) := by
  simp only [pre, Bool.and_eq_true, decide_eq_true_eq] at hp
  simp only [cntT_Disk] at hp
  have n0 := cntL_nn mk_Byte_ok x0.1
  have q0 : laws_heldByteS.pre x0.1 (x1) = true := heldByteS_pre (by omega) (by omega)
  unfold raw laws_heldDisk
  simp only [letB, if_true, q0]
  by_cases c0 : x0.1 = mkL mk_Byte cnt_Byte x0.1 (x1)
  case neg => rw [show laws_heldByteS x0.1 (x1) = -1 from heldByteS_neg c0, if_pos (by decide), heldN_neg (fun h => c0 (congrArg (fun z : Disk => z.1) h))]
  rw [show laws_heldByteS x0.1 (x1) = x1 + cntL cnt_Byte x0.1 from heldByteS_pos c0, if_neg (by rw [decide_eq_true_eq]; omega)]
  rw [heldN_pos (m := mkT_Disk) (g := cntT_Disk) (Prod.ext c0 (Prod.ext rfl rfl)), show x1 + cntL cnt_Byte x0.1 = x1 + cntT_Disk x0 by simp only [cntT_Disk]]
end laws_heldDisk
theorem heldDisk_pos {x : Disk} {k : Int} (h : x = mkT_Disk x k) : laws_heldDisk x k = k + cntT_Disk x := heldN_pos h
theorem heldDisk_neg {x : Disk} {k : Int} (h : ¬ x = mkT_Disk x k) : laws_heldDisk x k = -1 := heldN_neg h
theorem heldDisk_pre {x : Disk} {k : Int} (h0 : 0 ≤ k) (h1 : k + cntT_Disk x ≤ 134217728) : laws_heldDisk.pre x k = true := by simp [laws_heldDisk.pre, h0, h1]
theorem cntT_Disk_le (x : Disk) : cntT_Disk x ≤ 32 * w_Disk x := by
  have n0 := cntL_le cnt_Byte_le x.1
  simp only [w_Disk, cntT_Disk]; omega
def mkT_Rpc (x : Rpc) (k : Int) : Rpc := (x.1, (x.2.1, (x.2.2.1, (x.2.2.2.1, (x.2.2.2.2.1, (x.2.2.2.2.2.1, (x.2.2.2.2.2.2.1, (mkL mk_Entry cnt_Entry x.2.2.2.2.2.2.2.1 (k), (x.2.2.2.2.2.2.2.2.1, (x.2.2.2.2.2.2.2.2.2.1, ()))))))))))
def cntT_Rpc (x : Rpc) : Int := cntL cnt_Entry x.2.2.2.2.2.2.2.1
theorem cntT_Rpc_nn (x : Rpc) : 0 ≤ cntT_Rpc x := by
  have n7 := cntL_nn mk_Entry_ok x.2.2.2.2.2.2.2.1
  simp only [cntT_Rpc]; omega
def w_Rpc (x : Rpc) : Int := wL w_Entry x.2.2.2.2.2.2.2.1 + (x.2.2.2.2.2.2.2.2.2.1.length : Int)
theorem w_Rpc_nn (x : Rpc) : 0 ≤ w_Rpc x := by
  have n7 := wL_nn w_Entry_nn x.2.2.2.2.2.2.2.1
  simp only [w_Rpc]; omega
noncomputable def laws_eqRpc (a b : Rpc) : Bool := same a b
namespace laws_eqRpc
abbrev wf (x0 : zt3) (x1 : zt3) : Prop := wfA [(.val zk10 .f), (.val zk10 .f)] (x0, (x1, ()))
noncomputable def raw (x0 : zt3) (x1 : zt3) : Option zt25 :=
 if (!(decide (x0.1 = x1.1))) = true then
  some ((), (false, ()))
 else
  if (!(decide (x0.2.1 = x1.2.1))) = true then
   some ((), (false, ()))
  else
   if (!(decide (x0.2.2.1 = x1.2.2.1))) = true then
    some ((), (false, ()))
   else
    if (!(decide (x0.2.2.2.1 = x1.2.2.2.1))) = true then
     some ((), (false, ()))
    else
     if (!(decide (x0.2.2.2.2.1 = x1.2.2.2.2.1))) = true then
      some ((), (false, ()))
     else
      if (!(decide (x0.2.2.2.2.2.1 = x1.2.2.2.2.2.1))) = true then
       some ((), (false, ()))
      else
       if (!(decide (x0.2.2.2.2.2.2.1 = x1.2.2.2.2.2.2.1))) = true then
        some ((), (false, ()))
       else
        letB (laws_eqEntryS x0.2.2.2.2.2.2.2.1 x1.2.2.2.2.2.2.2.1) fun v1 =>
        if (!v1) = true then
         some ((), (false, ()))
        else
         if (!(x0.2.2.2.2.2.2.2.2.1 == x1.2.2.2.2.2.2.2.2.1)) = true then
          some ((), (false, ()))
         else
          if (!(x0.2.2.2.2.2.2.2.2.2.1 == x1.2.2.2.2.2.2.2.2.2.1)) = true then
           some ((), (false, ()))
          else
           some ((), (true, ()))
theorem eq (x0 x1 : Rpc) (_ : wf x0 x1) : raw x0 x1 = some ((), (laws_eqRpc x0 x1, ())) := by
  unfold raw laws_eqRpc
  try simp only [letB]
  by_cases c0 : x0.1 = x1.1
  case neg => rw [if_pos (by simp [c0]), same_false.2 (fun h => c0 (congrArg (fun z : Rpc => z.1) h))]
  rw [if_neg (by simp [c0])]
  by_cases c1 : x0.2.1 = x1.2.1
  case neg => rw [if_pos (by simp [c1]), same_false.2 (fun h => c1 (congrArg (fun z : Rpc => z.2.1) h))]
  rw [if_neg (by simp [c1])]
  by_cases c2 : x0.2.2.1 = x1.2.2.1
  case neg => rw [if_pos (by simp [c2]), same_false.2 (fun h => c2 (congrArg (fun z : Rpc => z.2.2.1) h))]
  rw [if_neg (by simp [c2])]
  by_cases c3 : x0.2.2.2.1 = x1.2.2.2.1
  case neg => rw [if_pos (by simp [c3]), same_false.2 (fun h => c3 (congrArg (fun z : Rpc => z.2.2.2.1) h))]
  rw [if_neg (by simp [c3])]
  by_cases c4 : x0.2.2.2.2.1 = x1.2.2.2.2.1
  case neg => rw [if_pos (by simp [c4]), same_false.2 (fun h => c4 (congrArg (fun z : Rpc => z.2.2.2.2.1) h))]
  rw [if_neg (by simp [c4])]
  by_cases c5 : x0.2.2.2.2.2.1 = x1.2.2.2.2.2.1
  case neg => rw [if_pos (by simp [c5]), same_false.2 (fun h => c5 (congrArg (fun z : Rpc => z.2.2.2.2.2.1) h))]
  rw [if_neg (by simp [c5])]
  by_cases c6 : x0.2.2.2.2.2.2.1 = x1.2.2.2.2.2.2.1
  case neg => rw [if_pos (by simp [c6]), same_false.2 (fun h => c6 (congrArg (fun z : Rpc => z.2.2.2.2.2.2.1) h))]
  rw [if_neg (by simp [c6])]
  by_cases c7 : x0.2.2.2.2.2.2.2.1 = x1.2.2.2.2.2.2.2.1
  case neg => rw [if_pos (by rw [laws_eqEntryS, same_false.2 c7]; rfl), same_false.2 (fun h => c7 (congrArg (fun z : Rpc => z.2.2.2.2.2.2.2.1) h))]
  rw [if_neg (by rw [laws_eqEntryS, same_true.2 c7]; simp)]
  by_cases c8 : x0.2.2.2.2.2.2.2.2.1 = x1.2.2.2.2.2.2.2.2.1
  case neg => rw [if_pos (by simp [c8]), same_false.2 (fun h => c8 (congrArg (fun z : Rpc => z.2.2.2.2.2.2.2.2.1) h))]
  rw [if_neg (by simp [c8])]
  by_cases c9 : x0.2.2.2.2.2.2.2.2.2.1 = x1.2.2.2.2.2.2.2.2.2.1
  case neg => rw [if_pos (by simp [c9]), same_false.2 (fun h => c9 (congrArg (fun z : Rpc => z.2.2.2.2.2.2.2.2.2.1) h))]
  rw [if_neg (by simp [c9])]
  rw [same_true.2 (Prod.ext c0 (Prod.ext c1 (Prod.ext c2 (Prod.ext c3 (Prod.ext c4 (Prod.ext c5 (Prod.ext c6 (Prod.ext c7 (Prod.ext c8 (Prod.ext c9 rfl))))))))))]
end laws_eqRpc
def laws_toRpc (x : Rpc) : Rpc := x
namespace laws_toRpc
def pre (x : Rpc) : Bool := laws_toEntryS.pre x.2.2.2.2.2.2.2.1
abbrev wf (x0 : zt3) : Prop := wfA [(.val zk10 .f)] (x0, ())
noncomputable def raw (x0 : zt3) : Option (Unit × (zt3 × Unit)) :=
 if (laws_toEntryS.pre x0.2.2.2.2.2.2.2.1) = true then
  letB (laws_toEntryS x0.2.2.2.2.2.2.2.1) fun v1 =>
  some ((), ((x0.1, (x0.2.1, (x0.2.2.1, (x0.2.2.2.1, (x0.2.2.2.2.1, (x0.2.2.2.2.2.1, (x0.2.2.2.2.2.2.1, (v1, x0.2.2.2.2.2.2.2.2)))))))), ()))
 else
  none
theorem eq (x0 : Rpc) (_ : wf x0) (hp : pre x0 = true) : raw x0 = some ((), (laws_toRpc x0, ())) := by
  simp only [pre, Bool.and_eq_true] at hp
  unfold raw
  try simp only [letB]
  rw [if_pos hp]
  rfl
end laws_toRpc
theorem toRpc_pre {x : Rpc} (h : w_Rpc x ≤ 16777216) : laws_toRpc.pre x = true := by
  simp only [w_Rpc] at h
  have n7 := wL_nn w_Entry_nn x.2.2.2.2.2.2.2.1
  simp only [laws_toRpc.pre, Bool.and_eq_true]
  have n9 : 0 ≤ (x.2.2.2.2.2.2.2.2.2.1.length : Int) := by omega
  exact toEntryS_pre (by omega)
def laws_szRpc (x : Rpc) (l : Int) : Int := szN (w_Rpc x) l
namespace laws_szRpc
def pre (_ : Rpc) (l : Int) : Bool := decide (0 ≤ l) && decide (l ≤ maxLen)
abbrev wf (x0 : zt3) (x1 : Int) : Prop := wfA [(.val zk10 .f), (.val (.int .i64) .f)] (x0, (x1, ()))
noncomputable def raw (x0 : zt3) (x1 : Int) : Option zt22 :=
 if (laws_szEntryS.pre x0.2.2.2.2.2.2.2.1 x1) = true then
  letB (laws_szEntryS x0.2.2.2.2.2.2.2.1 x1) fun v1 =>
  if (decide (v1 < (0 : Int))) = true then
   some ((), ((-1 : Int), ()))
  else
   if (decide ((IntKind.wrap .i64 (v1 - ((List.length x0.2.2.2.2.2.2.2.2.2.1 : Nat) : Int))) < (0 : Int))) = true then
    some ((), ((-1 : Int), ()))
   else
    some ((), ((IntKind.wrap .i64 (v1 - ((List.length x0.2.2.2.2.2.2.2.2.2.1 : Nat) : Int))), ()))
 else
  none
theorem eq (x0 : Rpc) (x1 : Int) (hw : wf x0 x1) (hp : pre x0 x1 = true) : raw x0 x1 = some ((), (laws_szRpc x0 x1, ())) := by
  simp only [pre, Bool.and_eq_true, decide_eq_true_eq] at hp
  have hM := maxLen_eq
  have t7 := wL_nn w_Entry_nn x0.2.2.2.2.2.2.2.1
  have t9 : x0.2.2.2.2.2.2.2.2.2.1.length ≤ maxLen := hw.1.2.2.2.2.2.2.2.2.2.1
  unfold raw
  try simp only [letB]
  rw [if_pos (show laws_szEntryS.pre _ _ = true by simp only [laws_szEntryS.pre, Bool.and_eq_true, decide_eq_true_eq]; omega)]
  by_cases c7 : x1 - wL w_Entry x0.2.2.2.2.2.2.2.1 < 0
  · rw [show laws_szEntryS x0.2.2.2.2.2.2.2.1 (x1) = -1 from szN_neg c7, if_pos (by decide), show laws_szRpc x0 x1 = -1 from szN_neg (by simp only [w_Rpc]; omega)]
  rw [show laws_szEntryS x0.2.2.2.2.2.2.2.1 (x1) = x1 - wL w_Entry x0.2.2.2.2.2.2.2.1 from szN_pos c7, if_neg (by rw [decide_eq_true_eq]; exact c7)]
  rw [w64 (n := x1 - wL w_Entry x0.2.2.2.2.2.2.2.1 - (x0.2.2.2.2.2.2.2.2.2.1.length : Int)) (by omega) (by omega)]
  by_cases c9 : x1 - wL w_Entry x0.2.2.2.2.2.2.2.1 - (x0.2.2.2.2.2.2.2.2.2.1.length : Int) < 0
  · rw [if_pos (decide_eq_true c9), show laws_szRpc x0 x1 = -1 from szN_neg (by simp only [w_Rpc]; omega)]
  rw [if_neg (by rw [decide_eq_true_eq]; exact c9)]
  rw [show laws_szRpc x0 x1 = x1 - wL w_Entry x0.2.2.2.2.2.2.2.1 - (x0.2.2.2.2.2.2.2.2.2.1.length : Int) from by rw [laws_szRpc, szN_pos (by simp only [w_Rpc]; omega)]; simp only [w_Rpc]; omega]
end laws_szRpc
noncomputable def laws_eqRpcS (a b : List Rpc) : Bool := same a b
namespace laws_eqRpcS
def pre4 := eqPre (α := Rpc)
noncomputable def fn4 := eqFn (α := Rpc)
def mu4 := eqMu (α := Rpc)
noncomputable def raw4 (x1 : (List zt3)) (x2 : (List zt3)) (x3 : Int) : Option (((List zt3) × ((List zt3) × (Int × Unit))) ⊕ ((Bool × Unit) ⊕ Unit)) :=
 if (decide (x3 < ((List.length x1 : Nat) : Int))) = true then
  if (decide ((0 : Int) ≤ x3)) = true then
   if (decide (x3 < ((List.length x1 : Nat) : Int))) = true then
    if (decide ((0 : Int) ≤ x3)) = true then
     if (decide (x3 < ((List.length x2 : Nat) : Int))) = true then
      letB (laws_eqRpc (List.getD x1 (Int.toNat x3) zd5) (List.getD x2 (Int.toNat x3) zd5)) fun v1 =>
      if (!v1) = true then
       some (.inr (.inl (false, ())))
      else
       some (.inl (x1, (x2, ((IntKind.wrap .i64 (x3 + (1 : Int))), ()))))
     else
      none
    else
     none
   else
    none
  else
   none
 else
  some (.inr (.inr ()))
abbrev wf (x0 : (List zt3)) (x1 : (List zt3)) : Prop := wfA [(.val (.sl 0 zk10) .f), (.val (.sl 0 zk10) .f)] (x0, (x1, ()))
noncomputable def raw (x0 : (List zt3)) (x1 : (List zt3)) : Option zt25 :=
 if (!(decide (((List.length x0 : Nat) : Int) = ((List.length x1 : Nat) : Int)))) = true then
  some ((), (false, ()))
 else
  if (laws_eqRpcS.pre4 (x0, (x1, ((0 : Int), ())))) = true then
   letB (laws_eqRpcS.fn4 (x0, (x1, ((0 : Int), ())))) fun v1 =>
   match v1 with
   | .inl y =>
    some ((), y)
   | .inr y =>
    some ((), (true, ()))
  else
   none
theorem ok4 (x1 x2 : List Rpc) (x3 : Int) (hp : pre4 (x1, (x2, (x3, ()))) = true) : Rounds pre4 mu4 fn4 (x1, (x2, (x3, ()))) (raw4 x1 x2 x3) := by
  unfold raw4
  by_cases hlt : x3 < (x1.length : Int)
  · obtain ⟨h1, h2, h3, h4⟩ := eq_next hp hlt zd5
    simp only [letB, hlt, h1, h2, decide_true, if_true]
    by_cases h : x1.getD x3.toNat zd5 = x2.getD x3.toNat zd5
    · rw [if_neg (by rw [laws_eqRpc, same_true.2 h]; simp)]; exact h3 h
    · rw [if_pos (by rw [laws_eqRpc, same_false.2 h]; rfl)]; exact h4 h
  · simp only [hlt, decide_false, Bool.false_eq_true, if_false]
    exact eq_end hp hlt
theorem eq (x0 x1 : List Rpc) (hw : wf x0 x1) : raw x0 x1 = some ((), (laws_eqRpcS x0 x1, ())) := by
  have h1 : x0.length ≤ maxLen := hw.1.1
  unfold raw laws_eqRpcS
  by_cases hl : (x0.length : Int) = (x1.length : Int)
  · rw [if_neg (by simp [hl]), if_pos (show pre4 _ = true from eq_start h1 hl)]
    unfold fn4
    by_cases he : x0 = x1
    · rw [eqFn_eq he, same_true.2 he]; rfl
    · rw [eqFn_ne he, same_false.2 he]; rfl
  · have : ¬ x0 = x1 := fun h => hl (by rw [h])
    rw [if_pos (by simp [hl]), same_false.2 this]
end laws_eqRpcS
def laws_toRpcS (xs : List Rpc) : List Rpc := xs
namespace laws_toRpcS
def pre (xs : List Rpc) : Bool := small xs && xs.all laws_toRpc.pre
noncomputable def pre3 := tcPreB (α := Rpc) laws_toRpc.pre
def fn3 := toFn (α := Rpc)
def mu3 := toMu (α := Rpc)
noncomputable def raw3 (x1 : (List zt3)) (x2 : Int) (x3 : (List zt3)) : Option (((List zt3) × (Int × zt29)) ⊕ zt29) :=
 if (decide (x2 < ((List.length x1 : Nat) : Int))) = true then
  if (decide ((0 : Int) ≤ x2)) = true then
   if (decide (x2 < ((List.length x1 : Nat) : Int))) = true then
    if (laws_toRpc.pre (List.getD x1 (Int.toNat x2) zd5)) = true then
     if (decide ((0 : Int) ≤ x2)) = true then
      if (decide (x2 < ((List.length x3 : Nat) : Int))) = true then
       some (.inl (x1, ((IntKind.wrap .i64 (x2 + (1 : Int))), ((List.modify x3 (Int.toNat x2) (fun z => (laws_toRpc (List.getD x1 (Int.toNat x2) zd5)))), ()))))
      else
       none
     else
      none
    else
     none
   else
    none
  else
   none
 else
  some (.inr (x3, ()))
abbrev wf (x0 : (List zt3)) : Prop := wfA [(.val (.sl 0 zk10) .f)] (x0, ())
noncomputable def raw (x0 : (List zt3)) : Option (Unit × zt29) :=
 if (decide ((0 : Int) ≤ ((List.length x0 : Nat) : Int))) = true then
  if (decide (((List.length x0 : Nat) : Int) ≤ ((List.length x0 : Nat) : Int))) = true then
   if (decide (((List.length x0 : Nat) : Int) ≤ (4294967296 : Int))) = true then
    if (laws_toRpcS.pre3 (x0, ((0 : Int), ((List.replicate (Int.toNat ((List.length x0 : Nat) : Int)) zd5), ())))) = true then
     letB (laws_toRpcS.fn3 (x0, ((0 : Int), ((List.replicate (Int.toNat ((List.length x0 : Nat) : Int)) zd5), ())))) fun v1 =>
     some ((), v1)
    else
     none
   else
    none
  else
   none
 else
  none
theorem ok3 (x1 : List Rpc) (x2 : Int) (x3 : List Rpc) (hp : pre3 (x1, (x2, (x3, ()))) = true) : Rounds pre3 mu3 fn3 (x1, (x2, (x3, ()))) (raw3 x1 x2 x3) := by
  unfold raw3
  by_cases hlt : x2 < (x1.length : Int)
  · obtain ⟨h1, h2, h3⟩ := tc_facts hp hlt zd5
    simp only [letB, hlt, h1, h2, h3, decide_true, if_true]
    exact tc_step hp hlt zd5 rfl
  · rw [if_neg (by simp [hlt])]; exact tc_end hp hlt
theorem eq (x0 : List Rpc) (hw : wf x0) (hp : pre x0 = true) : raw x0 = some ((), (laws_toRpcS x0, ())) := by
  have h1 : x0.length ≤ maxLen := hw.1.1
  simp only [pre, Bool.and_eq_true, small_iff] at hp
  unfold raw
  rw [if_pos (by simp), if_pos (by simp), if_pos (by simp; omega), if_pos (show pre3 _ = true from tc_start h1 hp.2 _)]
  rfl
end laws_toRpcS
theorem toRpcS_pre {xs : List Rpc} (h : wL w_Rpc xs ≤ 16777216) : laws_toRpcS.pre xs = true := by
  have hl := wL_nn w_Rpc_nn xs
  simp only [laws_toRpcS.pre, Bool.and_eq_true, small_iff]
  refine ⟨by omega, List.all_eq_true.2 fun x hx => toRpc_pre ?_⟩
  have := wL_get w_Rpc_nn hx
  omega
def laws_szRpcS (xs : List Rpc) (l : Int) : Int := szN (wL w_Rpc xs) l
namespace laws_szRpcS
def pre (_ : List Rpc) (l : Int) : Bool := decide (0 ≤ l) && decide (l ≤ maxLen)
def pre5 := swPre (α := Rpc)
def fn5 := swFn w_Rpc
def mu5 := szMu (α := Rpc)
noncomputable def raw5 (x1 : (List zt3)) (x2 : Int) (x3 : Int) : Option (((List zt3) × Mark) ⊕ ((Int × Unit) ⊕ (Int × Unit))) :=
 if (decide (x3 < ((List.length x1 : Nat) : Int))) = true then
  if (decide ((0 : Int) ≤ x3)) = true then
   if (decide (x3 < ((List.length x1 : Nat) : Int))) = true then
    if (laws_szRpc.pre (List.getD x1 (Int.toNat x3) zd5) x2) = true then
     letB (laws_szRpc (List.getD x1 (Int.toNat x3) zd5) x2) fun v1 =>
     if (decide (v1 < (0 : Int))) = true then
      some (.inr (.inl ((-1 : Int), ())))
     else
      some (.inl (x1, (v1, ((IntKind.wrap .i64 (x3 + (1 : Int))), ()))))
    else
     none
   else
    none
  else
   none
 else
  some (.inr (.inr (x2, ())))
abbrev wf (x0 : (List zt3)) (x1 : Int) : Prop := wfA [(.val (.sl 0 zk10) .f), (.val (.int .i64) .f)] (x0, (x1, ()))
noncomputable def raw (x0 : (List zt3)) (x1 : Int) : Option zt22 :=
 if (decide ((IntKind.wrap .i64 (x1 - ((List.length x0 : Nat) : Int))) < (0 : Int))) = true then
  some ((), ((-1 : Int), ()))
 else
  if (laws_szRpcS.pre5 (x0, ((IntKind.wrap .i64 (x1 - ((List.length x0 : Nat) : Int))), ((0 : Int), ())))) = true then
   letB (laws_szRpcS.fn5 (x0, ((IntKind.wrap .i64 (x1 - ((List.length x0 : Nat) : Int))), ((0 : Int), ())))) fun v1 =>
   match v1 with
   | .inl y =>
    some ((), y)
   | .inr y =>
    some ((), y)
  else
   none
theorem ok5 (x1 : List Rpc) (x2 x3 : Int) (hp : pre5 (x1, (x2, (x3, ()))) = true) : Rounds pre5 mu5 fn5 (x1, (x2, (x3, ()))) (raw5 x1 x2 x3) := by
  unfold raw5
  by_cases hlt : x3 < (x1.length : Int)
  · obtain ⟨h0, h1, h2⟩ := sw_facts hp
    have q : laws_szRpc.pre (x1.getD x3.toNat zd5) x2 = true := by simp only [laws_szRpc.pre, Bool.and_eq_true, decide_eq_true_eq]; exact ⟨h1, h2⟩
    simp only [letB, hlt, h0, q, decide_true, if_true]
    by_cases c : x2 - w_Rpc (x1.getD x3.toNat zd5) < 0
    · rw [show laws_szRpc (x1.getD x3.toNat zd5) x2 = -1 from szN_neg c, if_pos (by decide)]; exact sw_bad w_Rpc_nn hp hlt zd5 c
    · rw [show laws_szRpc (x1.getD x3.toNat zd5) x2 = x2 - w_Rpc (x1.getD x3.toNat zd5) from szN_pos c, if_neg (by rw [decide_eq_true_eq]; exact c)]; exact sw_good w_Rpc_nn hp hlt zd5 c
  · rw [if_neg (by simp [hlt])]; exact sw_end hp hlt
theorem eq (x0 : List Rpc) (x1 : Int) (hw : wf x0 x1) (hp : pre x0 x1 = true) : raw x0 x1 = some ((), (laws_szRpcS x0 x1, ())) := by
  have h1 : x0.length ≤ maxLen := hw.1.1
  simp only [pre, Bool.and_eq_true, decide_eq_true_eq] at hp
  have hM := maxLen_eq
  have hnn := sumW_nn w_Rpc_nn x0
  unfold raw
  rw [w64 (n := x1 - (x0.length : Int)) (by omega) (by omega)]
  by_cases c : x1 - (x0.length : Int) < 0
  · rw [if_pos (decide_eq_true c), show laws_szRpcS x0 x1 = -1 from szN_neg (by simp only [wL]; omega)]
  · rw [if_neg (by rw [decide_eq_true_eq]; exact c), if_pos (show pre5 _ = true from sw_start h1 (by omega) (by omega))]
    exact swFn_start x0 x1
end laws_szRpcS
def laws_markRpc (x : Rpc) (k : Int) : Rpc × Int := (mkT_Rpc x k, k + cntT_Rpc x)
namespace laws_markRpc
def pre (x : Rpc) (k : Int) : Bool := decide (0 ≤ k) && decide (k + cntT_Rpc x ≤ 134217728)
abbrev wf (x0 : zt3) (x1 : Int) : Prop := wfA [(.mut zk10), (.val (.int .i64) .f)] (x0, (x1, ()))
noncomputable def raw (x0 : zt3) (x1 : Int) : Option ((zt3 × Unit) × (Int × Unit)) :=
 if (laws_markEntryS.pre x0.2.2.2.2.2.2.2.1 x1) = true then
  letB (laws_markEntryS x0.2.2.2.2.2.2.2.1 x1) fun v1 =>
  some (((x0.1, (x0.2.1, (x0.2.2.1, (x0.2.2.2.1, (x0.2.2.2.2.1, (x0.2.2.2.2.2.1, (x0.2.2.2.2.2.2.1, (v1.1, x0.2.2.2.2.2.2.2.2)))))))), ()), (v1.2, ()))
 else
  none
theorem eq (x0 : Rpc) (x1 : Int) (_ : wf x0 x1) (hp : pre x0 x1 = true) : raw x0 x1 = some (((laws_markRpc x0 x1).1, ()), ((laws_markRpc x0 x1).2, ())) := by
  simp only [pre, Bool.and_eq_true, decide_eq_true_eq] at hp
  simp only [cntT_Rpc] at hp
  have n7 := cntL_nn mk_Entry_ok x0.2.2.2.2.2.2.2.1
  have q7 : laws_markEntryS.pre x0.2.2.2.2.2.2.2.1 (x1) = true := markEntryS_pre (by omega) (by omega)
  unfold raw
  simp only [letB, if_true, q7, markEntryS_eq]
  refine congrArg some (Prod.ext rfl (Prod.ext ?_ rfl))
  show _ = _
  simp only [laws_markRpc, cntT_Rpc]
end laws_markRpc
theorem markRpc_pre {x : Rpc} {k : Int} (h0 : 0 ≤ k) (h1 : k + cntT_Rpc x ≤ 134217728) : laws_markRpc.pre x k = true := by simp [laws_markRpc.pre, h0, h1]
def mk_Rpc (x : Rpc) (k : Int) : Rpc := (k, (k + 1, (k + 1 + 1, (k + 1 + 1 + 1, (k + 1 + 1 + 1 + 1, (k + 1 + 1 + 1 + 1 + 1, (k + 1 + 1 + 1 + 1 + 1 + 1, (mkL mk_Entry cnt_Entry x.2.2.2.2.2.2.2.1 (k + 1 + 1 + 1 + 1 + 1 + 1 + 1), (decide (Int.tmod (k + 1 + 1 + 1 + 1 + 1 + 1 + 1 + cntL cnt_Entry x.2.2.2.2.2.2.2.1) 3 = 0), (laws_markText (k + 1 + 1 + 1 + 1 + 1 + 1 + 1 + cntL cnt_Entry x.2.2.2.2.2.2.2.1 + 1), ()))))))))))
def cnt_Rpc (x : Rpc) : Int := 9 + cntL cnt_Entry x.2.2.2.2.2.2.2.1
theorem mk_Rpc_ok : MkOk mk_Rpc cnt_Rpc := by
  refine ⟨fun x => ?_, fun x k => ?_, fun x k => ?_⟩
  · have n7 := cntL_nn mk_Entry_ok x.2.2.2.2.2.2.2.1
    simp only [cnt_Rpc]; omega
  · simp only [cnt_Rpc, mk_Rpc, cntL_mkL mk_Entry_ok]
  · simp only [mk_Rpc, cntL_mkL mk_Entry_ok, mkL_mkL mk_Entry_ok]
def laws_markRpcS (xs : List Rpc) (k : Int) : List Rpc × Int := (mkL mk_Rpc cnt_Rpc xs k, k + cntL cnt_Rpc xs)
namespace laws_markRpcS
def pre (xs : List Rpc) (k : Int) : Bool := mPre cnt_Rpc xs k
def pre2 := mkPre cnt_Rpc
def fn2 := mkFn mk_Rpc cnt_Rpc
def mu2 := mkMu (α := Rpc)
noncomputable def raw2 (x1 : Int) (x2 : Int) (x3 : (List zt3)) : Option ((Int × (Int × zt29)) ⊕ (Int × zt29)) :=
 if (decide (x2 < ((List.length x3 : Nat) : Int))) = true then
  if (decide ((0 : Int) ≤ x2)) = true then
   if (decide (x2 < ((List.length x3 : Nat) : Int))) = true then
    if (decide ((0 : Int) ≤ x2)) = true then
     if (decide (x2 < ((List.length (List.modify x3 (Int.toNat x2) (fun z => (x1, z.2))) : Nat) : Int))) = true then
      if (decide ((0 : Int) ≤ x2)) = true then
       if (decide (x2 < ((List.length (List.modify (List.modify x3 (Int.toNat x2) (fun z => (x1, z.2))) (Int.toNat x2) (fun z => (z.1, ((IntKind.wrap .i64 (x1 + (1 : Int))), z.2.2)))) : Nat) : Int))) = true then
        if (decide ((0 : Int) ≤ x2)) = true then
         if (decide (x2 < ((List.length (List.modify (List.modify (List.modify x3 (Int.toNat x2) (fun z => (x1, z.2))) (Int.toNat x2) (fun z => (z.1, ((IntKind.wrap .i64 (x1 + (1 : Int))), z.2.2)))) (Int.toNat x2) (fun z => (z.1, (z.2.1, ((IntKind.wrap .i64 ((IntKind.wrap .i64 (x1 + (1 : Int))) + (1 : Int))), z.2.2.2))))) : Nat) : Int))) = true then
          if (decide ((0 : Int) ≤ x2)) = true then
           if (decide (x2 < ((List.length (List.modify (List.modify (List.modify (List.modify x3 (Int.toNat x2) (fun z => (x1, z.2))) (Int.toNat x2) (fun z => (z.1, ((IntKind.wrap .i64 (x1 + (1 : Int))), z.2.2)))) (Int.toNat x2) (fun z => (z.1, (z.2.1, ((IntKind.wrap .i64 ((IntKind.wrap .i64 (x1 + (1 : Int))) + (1 : Int))), z.2.2.2))))) (Int.toNat x2) (fun z => (z.1, (z.2.1, (z.2.2.1, ((IntKind.wrap .i64 ((IntKind.wrap .i64 ((IntKind.wrap .i64 (x1 + (1 : Int))) + (1 : Int))) + (1 : Int))), z.2.2.2.2)))))) : Nat) : Int))) = true then
            if (decide ((0 : Int) ≤ x2)) = true then
             if (decide (x2 < ((List.length (List.modify (List.modify (List.modify (List.modify (List.modify x3 (Int.toNat x2) (fun z => (x1, z.2))) (Int.toNat x2) (fun z => (z.1, ((IntKind.wrap .i64 (x1 + (1 : Int))), z.2.2)))) (Int.toNat x2) (fun z => (z.1, (z.2.1, ((IntKind.wrap .i64 ((IntKind.wrap .i64 (x1 + (1 : Int))) + (1 : Int))), z.2.2.2))))) (Int.toNat x2) (fun z => (z.1, (z.2.1, (z.2.2.1, ((IntKind.wrap .i64 ((IntKind.wrap .i64 ((IntKind.wrap .i64 (x1 + (1 : Int))) + (1 : Int))) + (1 : Int))), z.2.2.2.2)))))) (Int.toNat x2) (fun z => (z.1, (z.2.1, (z.2.2.1, (z.2.2.2.1, ((IntKind.wrap .i64 ((IntKind.wrap .i64 ((IntKind.wrap .i64 ((IntKind.wrap .i64 (x1 + (1 : Int))) + (1 : Int))) + (1 : Int))) + (1 : Int))), z.2.2.2.2.2))))))) : Nat) : Int))) = true then
              if (decide ((0 : Int) ≤ x2)) = true then
               if (decide (x2 < ((List.length (List.modify (List.modify (List.modify (List.modify (List.modify (List.modify x3 (Int.toNat x2) (fun z => (x1, z.2))) (Int.toNat x2) (fun z => (z.1, ((IntKind.wrap .i64 (x1 + (1 : Int))), z.2.2)))) (Int.toNat x2) (fun z => (z.1, (z.2.1, ((IntKind.wrap .i64 ((IntKind.wrap .i64 (x1 + (1 : Int))) + (1 : Int))), z.2.2.2))))) (Int.toNat x2) (fun z => (z.1, (z.2.1, (z.2.2.1, ((IntKind.wrap .i64 ((IntKind.wrap .i64 ((IntKind.wrap .i64 (x1 + (1 : Int))) + (1 : Int))) + (1 : Int))), z.2.2.2.2)))))) (Int.toNat x2) (fun z => (z.1, (z.2.1, (z.2.2.1, (z.2.2.2.1, ((IntKind.wrap .i64 ((IntKind.wrap .i64 ((IntKind.wrap .i64 ((IntKind.wrap .i64 (x1 + (1 : Int))) + (1 : Int))) + (1 : Int))) + (1 : Int))), z.2.2.2.2.2))))))) (Int.toNat x2) (fun z => (z.1, (z.2.1, (z.2.2.1, (z.2.2.2.1, (z.2.2.2.2.1, ((IntKind.wrap .i64 ((IntKind.wrap .i64 ((IntKind.wrap .i64 ((IntKind.wrap .i64 ((IntKind.wrap .i64 (x1 + (1 : Int))) + (1 : Int))) + (1 : Int))) + (1 : Int))) + (1 : Int))), z.2.2.2.2.2.2)))))))) : Nat) : Int))) = true then
                if (decide ((0 : Int) ≤ x2)) = true then
                 if (decide (x2 < ((List.length (List.modify (List.modify (List.modify (List.modify (List.modify (List.modify (List.modify x3 (Int.toNat x2) (fun z => (x1, z.2))) (Int.toNat x2) (fun z => (z.1, ((IntKind.wrap .i64 (x1 + (1 : Int))), z.2.2)))) (Int.toNat x2) (fun z => (z.1, (z.2.1, ((IntKind.wrap .i64 ((IntKind.wrap .i64 (x1 + (1 : Int))) + (1 : Int))), z.2.2.2))))) (Int.toNat x2) (fun z => (z.1, (z.2.1, (z.2.2.1, ((IntKind.wrap .i64 ((IntKind.wrap .i64 ((IntKind.wrap .i64 (x1 + (1 : Int))) + (1 : Int))) + (1 : Int))), z.2.2.2.2)))))) (Int.toNat x2) (fun z => (z.1, (z.2.1, (z.2.2.1, (z.2.2.2.1, ((IntKind.wrap .i64 ((IntKind.wrap .i64 ((IntKind.wrap .i64 ((IntKind.wrap .i64 (x1 + (1 : Int))) + (1 : Int))) + (1 : Int))) + (1 : Int))), z.2.2.2.2.2))))))) (Int.toNat x2) (fun z => (z.1, (z.2.1, (z.2.2.1, (z.2.2.2.1, (z.2.2.2.2.1, ((IntKind.wrap .i64 ((IntKind.wrap .i64 ((IntKind.wrap .i64 ((IntKind.wrap .i64 ((IntKind.wrap .i64 (x1 + (1 : Int))) + (1 : Int))) + (1 : Int))) + (1 : Int))) + (1 : Int))), z.2.2.2.2.2.2)))))))) (Int.toNat x2) (fun z => (z.1, (z.2.1, (z.2.2.1, (z.2.2.2.1, (z.2.2.2.2.1, (z.2.2.2.2.2.1, ((IntKind.wrap .i64 ((IntKind.wrap .i64 ((IntKind.wrap .i64 ((IntKind.wrap .i64 ((IntKind.wrap .i64 ((IntKind.wrap .i64 (x1 + (1 : Int))) + (1 : Int))) + (1 : Int))) + (1 : Int))) + (1 : Int))) + (1 : Int))), z.2.2.2.2.2.2.2))))))))) : Nat) : Int))) = true then
                  if (laws_markEntryS.pre (List.getD (List.modify (List.modify (List.modify (List.modify (List.modify (List.modify (List.modify x3 (Int.toNat x2) (fun z => (x1, z.2))) (Int.toNat x2) (fun z => (z.1, ((IntKind.wrap .i64 (x1 + (1 : Int))), z.2.2)))) (Int.toNat x2) (fun z => (z.1, (z.2.1, ((IntKind.wrap .i64 ((IntKind.wrap .i64 (x1 + (1 : Int))) + (1 : Int))), z.2.2.2))))) (Int.toNat x2) (fun z => (z.1, (z.2.1, (z.2.2.1, ((IntKind.wrap .i64 ((IntKind.wrap .i64 ((IntKind.wrap .i64 (x1 + (1 : Int))) + (1 : Int))) + (1 : Int))), z.2.2.2.2)))))) (Int.toNat x2) (fun z => (z.1, (z.2.1, (z.2.2.1, (z.2.2.2.1, ((IntKind.wrap .i64 ((IntKind.wrap .i64 ((IntKind.wrap .i64 ((IntKind.wrap .i64 (x1 + (1 : Int))) + (1 : Int))) + (1 : Int))) + (1 : Int))), z.2.2.2.2.2))))))) (Int.toNat x2) (fun z => (z.1, (z.2.1, (z.2.2.1, (z.2.2.2.1, (z.2.2.2.2.1, ((IntKind.wrap .i64 ((IntKind.wrap .i64 ((IntKind.wrap .i64 ((IntKind.wrap .i64 ((IntKind.wrap .i64 (x1 + (1 : Int))) + (1 : Int))) + (1 : Int))) + (1 : Int))) + (1 : Int))), z.2.2.2.2.2.2)))))))) (Int.toNat x2) (fun z => (z.1, (z.2.1, (z.2.2.1, (z.2.2.2.1, (z.2.2.2.2.1, (z.2.2.2.2.2.1, ((IntKind.wrap .i64 ((IntKind.wrap .i64 ((IntKind.wrap .i64 ((IntKind.wrap .i64 ((IntKind.wrap .i64 ((IntKind.wrap .i64 (x1 + (1 : Int))) + (1 : Int))) + (1 : Int))) + (1 : Int))) + (1 : Int))) + (1 : Int))), z.2.2.2.2.2.2.2))))))))) (Int.toNat x2) zd5).2.2.2.2.2.2.2.1 (IntKind.wrap .i64 ((IntKind.wrap .i64 ((IntKind.wrap .i64 ((IntKind.wrap .i64 ((IntKind.wrap .i64 ((IntKind.wrap .i64 ((IntKind.wrap .i64 (x1 + (1 : Int))) + (1 : Int))) + (1 : Int))) + (1 : Int))) + (1 : Int))) + (1 : Int))) + (1 : Int)))) = true then
                   if (!(decide ((3 : Int) = (0 : Int)))) = true then
                    if (decide ((0 : Int) ≤ x2)) = true then
                     if (decide (x2 < ((List.length (List.modify (List.modify (List.modify (List.modify (List.modify (List.modify (List.modify (List.modify x3 (Int.toNat x2) (fun z => (x1, z.2))) (Int.toNat x2) (fun z => (z.1, ((IntKind.wrap .i64 (x1 + (1 : Int))), z.2.2)))) (Int.toNat x2) (fun z => (z.1, (z.2.1, ((IntKind.wrap .i64 ((IntKind.wrap .i64 (x1 + (1 : Int))) + (1 : Int))), z.2.2.2))))) (Int.toNat x2) (fun z => (z.1, (z.2.1, (z.2.2.1, ((IntKind.wrap .i64 ((IntKind.wrap .i64 ((IntKind.wrap .i64 (x1 + (1 : Int))) + (1 : Int))) + (1 : Int))), z.2.2.2.2)))))) (Int.toNat x2) (fun z => (z.1, (z.2.1, (z.2.2.1, (z.2.2.2.1, ((IntKind.wrap .i64 ((IntKind.wrap .i64 ((IntKind.wrap .i64 ((IntKind.wrap .i64 (x1 + (1 : Int))) + (1 : Int))) + (1 : Int))) + (1 : Int))), z.2.2.2.2.2))))))) (Int.toNat x2) (fun z => (z.1, (z.2.1, (z.2.2.1, (z.2.2.2.1, (z.2.2.2.2.1, ((IntKind.wrap .i64 ((IntKind.wrap .i64 ((IntKind.wrap .i64 ((IntKind.wrap .i64 ((IntKind.wrap .i64 (x1 + (1 : Int))) + (1 : Int))) + (1 : Int))) + (1 : Int))) + (1 : Int))), z.2.2.2.2.2.2)))))))) (Int.toNat x2) (fun z => (z.1, (z.2.1, (z.2.2.1, (z.2.2.2.1, (z.2.2.2.2.1, (z.2.2.2.2.2.1, ((IntKind.wrap .i64 ((IntKind.wrap .i64 ((IntKind.wrap .i64 ((IntKind.wrap .i64 ((IntKind.wrap .i64 ((IntKind.wrap .i64 (x1 + (1 : Int))) + (1 : Int))) + (1 : Int))) + (1 : Int))) + (1 : Int))) + (1 : Int))), z.2.2.2.2.2.2.2))))))))) (Int.toNat x2) (fun z => (z.1, (z.2.1, (z.2.2.1, (z.2.2.2.1, (z.2.2.2.2.1, (z.2.2.2.2.2.1, (z.2.2.2.2.2.2.1, ((laws_markEntryS (List.getD (List.modify (List.modify (List.modify (List.modify (List.modify (List.modify (List.modify x3 (Int.toNat x2) (fun z_1 => (x1, z_1.2))) (Int.toNat x2) (fun z_1 => (z_1.1, ((IntKind.wrap .i64 (x1 + (1 : Int))), z_1.2.2)))) (Int.toNat x2) (fun z_1 => (z_1.1, (z_1.2.1, ((IntKind.wrap .i64 ((IntKind.wrap .i64 (x1 + (1 : Int))) + (1 : Int))), z_1.2.2.2))))) (Int.toNat x2) (fun z_1 => (z_1.1, (z_1.2.1, (z_1.2.2.1, ((IntKind.wrap .i64 ((IntKind.wrap .i64 ((IntKind.wrap .i64 (x1 + (1 : Int))) + (1 : Int))) + (1 : Int))), z_1.2.2.2.2)))))) (Int.toNat x2) (fun z_1 => (z_1.1, (z_1.2.1, (z_1.2.2.1, (z_1.2.2.2.1, ((IntKind.wrap .i64 ((IntKind.wrap .i64 ((IntKind.wrap .i64 ((IntKind.wrap .i64 (x1 + (1 : Int))) + (1 : Int))) + (1 : Int))) + (1 : Int))), z_1.2.2.2.2.2))))))) (Int.toNat x2) (fun z_1 => (z_1.1, (z_1.2.1, (z_1.2.2.1, (z_1.2.2.2.1, (z_1.2.2.2.2.1, ((IntKind.wrap .i64 ((IntKind.wrap .i64 ((IntKind.wrap .i64 ((IntKind.wrap .i64 ((IntKind.wrap .i64 (x1 + (1 : Int))) + (1 : Int))) + (1 : Int))) + (1 : Int))) + (1 : Int))), z_1.2.2.2.2.2.2)))))))) (Int.toNat x2) (fun z_1 => (z_1.1, (z_1.2.1, (z_1.2.2.1, (z_1.2.2.2.1, (z_1.2.2.2.2.1, (z_1.2.2.2.2.2.1, ((IntKind.wrap .i64 ((IntKind.wrap .i64 ((IntKind.wrap .i64 ((IntKind.wrap .i64 ((IntKind.wrap .i64 ((IntKind.wrap .i64 (x1 + (1 : Int))) + (1 : Int))) + (1 : Int))) + (1 : Int))) + (1 : Int))) + (1 : Int))), z_1.2.2.2.2.2.2.2))))))))) (Int.toNat x2) zd5).2.2.2.2.2.2.2.1 (IntKind.wrap .i64 ((IntKind.wrap .i64 ((IntKind.wrap .i64 ((IntKind.wrap .i64 ((IntKind.wrap .i64 ((IntKind.wrap .i64 ((IntKind.wrap .i64 (x1 + (1 : Int))) + (1 : Int))) + (1 : Int))) + (1 : Int))) + (1 : Int))) + (1 : Int))) + (1 : Int)))).1, z.2.2.2.2.2.2.2.2)))))))))) : Nat) : Int))) = true then
                      letB (laws_markEntryS (List.getD (List.modify (List.modify (List.modify (List.modify (List.modify (List.modify (List.modify x3 (Int.toNat x2) (fun z => (x1, z.2))) (Int.toNat x2) (fun z => (z.1, ((IntKind.wrap .i64 (x1 + (1 : Int))), z.2.2)))) (Int.toNat x2) (fun z => (z.1, (z.2.1, ((IntKind.wrap .i64 ((IntKind.wrap .i64 (x1 + (1 : Int))) + (1 : Int))), z.2.2.2))))) (Int.toNat x2) (fun z => (z.1, (z.2.1, (z.2.2.1, ((IntKind.wrap .i64 ((IntKind.wrap .i64 ((IntKind.wrap .i64 (x1 + (1 : Int))) + (1 : Int))) + (1 : Int))), z.2.2.2.2)))))) (Int.toNat x2) (fun z => (z.1, (z.2.1, (z.2.2.1, (z.2.2.2.1, ((IntKind.wrap .i64 ((IntKind.wrap .i64 ((IntKind.wrap .i64 ((IntKind.wrap .i64 (x1 + (1 : Int))) + (1 : Int))) + (1 : Int))) + (1 : Int))), z.2.2.2.2.2))))))) (Int.toNat x2) (fun z => (z.1, (z.2.1, (z.2.2.1, (z.2.2.2.1, (z.2.2.2.2.1, ((IntKind.wrap .i64 ((IntKind.wrap .i64 ((IntKind.wrap .i64 ((IntKind.wrap .i64 ((IntKind.wrap .i64 (x1 + (1 : Int))) + (1 : Int))) + (1 : Int))) + (1 : Int))) + (1 : Int))), z.2.2.2.2.2.2)))))))) (Int.toNat x2) (fun z => (z.1, (z.2.1, (z.2.2.1, (z.2.2.2.1, (z.2.2.2.2.1, (z.2.2.2.2.2.1, ((IntKind.wrap .i64 ((IntKind.wrap .i64 ((IntKind.wrap .i64 ((IntKind.wrap .i64 ((IntKind.wrap .i64 ((IntKind.wrap .i64 (x1 + (1 : Int))) + (1 : Int))) + (1 : Int))) + (1 : Int))) + (1 : Int))) + (1 : Int))), z.2.2.2.2.2.2.2))))))))) (Int.toNat x2) zd5).2.2.2.2.2.2.2.1 (IntKind.wrap .i64 ((IntKind.wrap .i64 ((IntKind.wrap .i64 ((IntKind.wrap .i64 ((IntKind.wrap .i64 ((IntKind.wrap .i64 ((IntKind.wrap .i64 (x1 + (1 : Int))) + (1 : Int))) + (1 : Int))) + (1 : Int))) + (1 : Int))) + (1 : Int))) + (1 : Int)))) fun v1 =>
                      if (laws_markText.pre (IntKind.wrap .i64 (v1.2 + (1 : Int)))) = true then
                       if (decide ((0 : Int) ≤ x2)) = true then
                        if (decide (x2 < ((List.length (List.modify (List.modify (List.modify (List.modify (List.modify (List.modify (List.modify (List.modify (List.modify x3 (Int.toNat x2) (fun z => (x1, z.2))) (Int.toNat x2) (fun z => (z.1, ((IntKind.wrap .i64 (x1 + (1 : Int))), z.2.2)))) (Int.toNat x2) (fun z => (z.1, (z.2.1, ((IntKind.wrap .i64 ((IntKind.wrap .i64 (x1 + (1 : Int))) + (1 : Int))), z.2.2.2))))) (Int.toNat x2) (fun z => (z.1, (z.2.1, (z.2.2.1, ((IntKind.wrap .i64 ((IntKind.wrap .i64 ((IntKind.wrap .i64 (x1 + (1 : Int))) + (1 : Int))) + (1 : Int))), z.2.2.2.2)))))) (Int.toNat x2) (fun z => (z.1, (z.2.1, (z.2.2.1, (z.2.2.2.1, ((IntKind.wrap .i64 ((IntKind.wrap .i64 ((IntKind.wrap .i64 ((IntKind.wrap .i64 (x1 + (1 : Int))) + (1 : Int))) + (1 : Int))) + (1 : Int))), z.2.2.2.2.2))))))) (Int.toNat x2) (fun z => (z.1, (z.2.1, (z.2.2.1, (z.2.2.2.1, (z.2.2.2.2.1, ((IntKind.wrap .i64 ((IntKind.wrap .i64 ((IntKind.wrap .i64 ((IntKind.wrap .i64 ((IntKind.wrap .i64 (x1 + (1 : Int))) + (1 : Int))) + (1 : Int))) + (1 : Int))) + (1 : Int))), z.2.2.2.2.2.2)))))))) (Int.toNat x2) (fun z => (z.1, (z.2.1, (z.2.2.1, (z.2.2.2.1, (z.2.2.2.2.1, (z.2.2.2.2.2.1, ((IntKind.wrap .i64 ((IntKind.wrap .i64 ((IntKind.wrap .i64 ((IntKind.wrap .i64 ((IntKind.wrap .i64 ((IntKind.wrap .i64 (x1 + (1 : Int))) + (1 : Int))) + (1 : Int))) + (1 : Int))) + (1 : Int))) + (1 : Int))), z.2.2.2.2.2.2.2))))))))) (Int.toNat x2) (fun z => (z.1, (z.2.1, (z.2.2.1, (z.2.2.2.1, (z.2.2.2.2.1, (z.2.2.2.2.2.1, (z.2.2.2.2.2.2.1, (v1.1, z.2.2.2.2.2.2.2.2)))))))))) (Int.toNat x2) (fun z => (z.1, (z.2.1, (z.2.2.1, (z.2.2.2.1, (z.2.2.2.2.1, (z.2.2.2.2.2.1, (z.2.2.2.2.2.2.1, (z.2.2.2.2.2.2.2.1, ((decide ((Int.tmod v1.2 (3 : Int)) = (0 : Int))), z.2.2.2.2.2.2.2.2.2))))))))))) : Nat) : Int))) = true then
                         some (.inl ((IntKind.wrap .i64 ((IntKind.wrap .i64 (v1.2 + (1 : Int))) + (1 : Int))), ((IntKind.wrap .i64 (x2 + (1 : Int))), ((List.modify (List.modify (List.modify (List.modify (List.modify (List.modify (List.modify (List.modify (List.modify (List.modify x3 (Int.toNat x2) (fun z => (x1, z.2))) (Int.toNat x2) (fun z => (z.1, ((IntKind.wrap .i64 (x1 + (1 : Int))), z.2.2)))) (Int.toNat x2) (fun z => (z.1, (z.2.1, ((IntKind.wrap .i64 ((IntKind.wrap .i64 (x1 + (1 : Int))) + (1 : Int))), z.2.2.2))))) (Int.toNat x2) (fun z => (z.1, (z.2.1, (z.2.2.1, ((IntKind.wrap .i64 ((IntKind.wrap .i64 ((IntKind.wrap .i64 (x1 + (1 : Int))) + (1 : Int))) + (1 : Int))), z.2.2.2.2)))))) (Int.toNat x2) (fun z => (z.1, (z.2.1, (z.2.2.1, (z.2.2.2.1, ((IntKind.wrap .i64 ((IntKind.wrap .i64 ((IntKind.wrap .i64 ((IntKind.wrap .i64 (x1 + (1 : Int))) + (1 : Int))) + (1 : Int))) + (1 : Int))), z.2.2.2.2.2))))))) (Int.toNat x2) (fun z => (z.1, (z.2.1, (z.2.2.1, (z.2.2.2.1, (z.2.2.2.2.1, ((IntKind.wrap .i64 ((IntKind.wrap .i64 ((IntKind.wrap .i64 ((IntKind.wrap .i64 ((IntKind.wrap .i64 (x1 + (1 : Int))) + (1 : Int))) + (1 : Int))) + (1 : Int))) + (1 : Int))), z.2.2.2.2.2.2)))))))) (Int.toNat x2) (fun z => (z.1, (z.2.1, (z.2.2.1, (z.2.2.2.1, (z.2.2.2.2.1, (z.2.2.2.2.2.1, ((IntKind.wrap .i64 ((IntKind.wrap .i64 ((IntKind.wrap .i64 ((IntKind.wrap .i64 ((IntKind.wrap .i64 ((IntKind.wrap .i64 (x1 + (1 : Int))) + (1 : Int))) + (1 : Int))) + (1 : Int))) + (1 : Int))) + (1 : Int))), z.2.2.2.2.2.2.2))))))))) (Int.toNat x2) (fun z => (z.1, (z.2.1, (z.2.2.1, (z.2.2.2.1, (z.2.2.2.2.1, (z.2.2.2.2.2.1, (z.2.2.2.2.2.2.1, (v1.1, z.2.2.2.2.2.2.2.2)))))))))) (Int.toNat x2) (fun z => (z.1, (z.2.1, (z.2.2.1, (z.2.2.2.1, (z.2.2.2.2.1, (z.2.2.2.2.2.1, (z.2.2.2.2.2.2.1, (z.2.2.2.2.2.2.2.1, ((decide ((Int.tmod v1.2 (3 : Int)) = (0 : Int))), z.2.2.2.2.2.2.2.2.2))))))))))) (Int.toNat x2) (fun z => (z.1, (z.2.1, (z.2.2.1, (z.2.2.2.1, (z.2.2.2.2.1, (z.2.2.2.2.2.1, (z.2.2.2.2.2.2.1, (z.2.2.2.2.2.2.2.1, (z.2.2.2.2.2.2.2.2.1, ((laws_markText (IntKind.wrap .i64 (v1.2 + (1 : Int)))), z.2.2.2.2.2.2.2.2.2.2)))))))))))), ()))))
                        else
                         none
                       else
                        none
                      else
                       none
                     else
                      none
                    else
                     none
                   else
                    none
                  else
                   none
                 else
                  none
                else
                 none
               else
                none
              else
               none
             else
              none
            else
             none
           else
            none
          else
           none
         else
          none
        else
         none
       else
        none
      else
       none
     else
      none
    else
     none
   else
    none
  else
   none
 else
  some (.inr (x1, (x3, ())))
abbrev wf (x0 : (List zt3)) (x1 : Int) : Prop := wfA [(.mut (.sl 0 zk10)), (.val (.int .i64) .f)] (x0, (x1, ()))
noncomputable def raw (x0 : (List zt3)) (x1 : Int) : Option (zt29 × (Int × Unit)) :=
 if (laws_markRpcS.pre2 (x1, ((0 : Int), (x0, ())))) = true then
  letB (laws_markRpcS.fn2 (x1, ((0 : Int), (x0, ())))) fun v1 =>
  some (v1.2, (v1.1, ()))
 else
  none
theorem ok2 (x1 x2 : Int) (x3 : List Rpc) (hp : pre2 (x1, (x2, (x3, ()))) = true) : Rounds pre2 mu2 fn2 (x1, (x2, (x3, ()))) (raw2 x1 x2 x3) := by
  unfold raw2
  by_cases hlt : x2 < (x3.length : Int)
  · obtain ⟨h0, hk, hc, hn⟩ := mk_facts mk_Rpc_ok hp hlt zd5
    generalize he : x3.getD x2.toNat zd5 = e at hc
    simp only [cnt_Rpc] at hc
    have n7 := cntL_nn mk_Entry_ok e.2.2.2.2.2.2.2.1
    have w0 : IntKind.wrap .i64 (x1 + 1) = x1 + 1 := w64 (by omega) (by omega)
    have w1 : IntKind.wrap .i64 (x1 + 1 + 1) = x1 + 1 + 1 := w64 (by omega) (by omega)
    have w2 : IntKind.wrap .i64 (x1 + 1 + 1 + 1) = x1 + 1 + 1 + 1 := w64 (by omega) (by omega)
    have w3 : IntKind.wrap .i64 (x1 + 1 + 1 + 1 + 1) = x1 + 1 + 1 + 1 + 1 := w64 (by omega) (by omega)
    have w4 : IntKind.wrap .i64 (x1 + 1 + 1 + 1 + 1 + 1) = x1 + 1 + 1 + 1 + 1 + 1 := w64 (by omega) (by omega)
    have w5 : IntKind.wrap .i64 (x1 + 1 + 1 + 1 + 1 + 1 + 1) = x1 + 1 + 1 + 1 + 1 + 1 + 1 := w64 (by omega) (by omega)
    have w6 : IntKind.wrap .i64 (x1 + 1 + 1 + 1 + 1 + 1 + 1 + 1) = x1 + 1 + 1 + 1 + 1 + 1 + 1 + 1 := w64 (by omega) (by omega)
    have q7 : laws_markEntryS.pre e.2.2.2.2.2.2.2.1 (x1 + 1 + 1 + 1 + 1 + 1 + 1 + 1) = true := markEntryS_pre (by omega) (by omega)
    have w8 : IntKind.wrap .i64 (x1 + 1 + 1 + 1 + 1 + 1 + 1 + 1 + cntL cnt_Entry e.2.2.2.2.2.2.2.1 + 1) = x1 + 1 + 1 + 1 + 1 + 1 + 1 + 1 + cntL cnt_Entry e.2.2.2.2.2.2.2.1 + 1 := w64 (by omega) (by omega)
    have w9 : IntKind.wrap .i64 (x1 + 1 + 1 + 1 + 1 + 1 + 1 + 1 + cntL cnt_Entry e.2.2.2.2.2.2.2.1 + 1 + 1) = x1 + 1 + 1 + 1 + 1 + 1 + 1 + 1 + cntL cnt_Entry e.2.2.2.2.2.2.2.1 + 1 + 1 := w64 (by omega) (by omega)
    have p9 : laws_markText.pre (x1 + 1 + 1 + 1 + 1 + 1 + 1 + 1 + cntL cnt_Entry e.2.2.2.2.2.2.2.1 + 1) = true := by simp only [laws_markText.pre, decide_eq_true_eq]; omega
    simp only [letB, List.length_modify, List.modify_modify_eq, getD_modify hn, Function.comp, hlt, h0, he, decide_true, if_true, w0, w1, w2, w3, w4, w5, w6, q7, w8, w9, p9, markEntryS_eq]
    exact mk_step mk_Rpc_ok hp hlt zd5 (by rw [he]; simp only [cnt_Rpc]; omega) (by rw [he]; rfl)
  · rw [if_neg (by simp [hlt])]; exact mk_end hp hlt
theorem eq (x0 : List Rpc) (x1 : Int) (_ : wf x0 x1) (hp : pre x0 x1 = true) : raw x0 x1 = some (((laws_markRpcS x0 x1).1, ()), ((laws_markRpcS x0 x1).2, ())) := by
  unfold raw
  rw [if_pos (show pre2 _ = true from mk_start mk_Rpc_ok hp)]
  rfl
end laws_markRpcS
theorem markRpcS_eq (xs : List Rpc) (k : Int) : laws_markRpcS xs k = (mkL mk_Rpc cnt_Rpc xs k, k + cntL cnt_Rpc xs) := rfl
theorem markRpcS_pre {xs : List Rpc} {k : Int} (h0 : 0 ≤ k) (h1 : k + cntL cnt_Rpc xs ≤ 134217728) : laws_markRpcS.pre xs k = true := mPre_iff.2 ⟨h0, h1⟩
noncomputable def laws_heldRpcS (xs : List Rpc) (k : Int) : Int := heldN (mkL mk_Rpc cnt_Rpc) (cntL cnt_Rpc) xs k
namespace laws_heldRpcS
def pre (xs : List Rpc) (k : Int) : Bool := mPre cnt_Rpc xs k
def pre2 := hePre cnt_Rpc
noncomputable def fn2 := heFn mk_Rpc cnt_Rpc
def mu2 := heMu (α := Rpc)
noncomputable def raw2 (x1 : (List zt3)) (x2 : Int) (x3 : Int) : Option (((List zt3) × Mark) ⊕ ((Int × Unit) ⊕ (Int × Unit))) :=
 if (decide (x3 < ((List.length x1 : Nat) : Int))) = true then
  if (decide ((0 : Int) ≤ x3)) = true then
   if (decide (x3 < ((List.length x1 : Nat) : Int))) = true then
    if (!(decide ((List.getD x1 (Int.toNat x3) zd5).1 = x2))) = true then
     some (.inr (.inl ((-1 : Int), ())))
    else
     if (decide ((0 : Int) ≤ x3)) = true then
      if (decide (x3 < ((List.length x1 : Nat) : Int))) = true then
       if (!(decide ((List.getD x1 (Int.toNat x3) zd5).2.1 = (IntKind.wrap .i64 (x2 + (1 : Int)))))) = true then
        some (.inr (.inl ((-1 : Int), ())))
       else
        if (decide ((0 : Int) ≤ x3)) = true then
         if (decide (x3 < ((List.length x1 : Nat) : Int))) = true then
          if (!(decide ((List.getD x1 (Int.toNat x3) zd5).2.2.1 = (IntKind.wrap .i64 ((IntKind.wrap .i64 (x2 + (1 : Int))) + (1 : Int)))))) = true then
           some (.inr (.inl ((-1 : Int), ())))
          else
           if (decide ((0 : Int) ≤ x3)) = true then
            if (decide (x3 < ((List.length x1 : Nat) : Int))) = true then
             if (!(decide ((List.getD x1 (Int.toNat x3) zd5).2.2.2.1 = (IntKind.wrap .i64 ((IntKind.wrap .i64 ((IntKind.wrap .i64 (x2 + (1 : Int))) + (1 : Int))) + (1 : Int)))))) = true then
              some (.inr (.inl ((-1 : Int), ())))
             else
              if (decide ((0 : Int) ≤ x3)) = true then
               if (decide (x3 < ((List.length x1 : Nat) : Int))) = true then
                if (!(decide ((List.getD x1 (Int.toNat x3) zd5).2.2.2.2.1 = (IntKind.wrap .i64 ((IntKind.wrap .i64 ((IntKind.wrap .i64 ((IntKind.wrap .i64 (x2 + (1 : Int))) + (1 : Int))) + (1 : Int))) + (1 : Int)))))) = true then
                 some (.inr (.inl ((-1 : Int), ())))
                else
                 if (decide ((0 : Int) ≤ x3)) = true then
                  if (decide (x3 < ((List.length x1 : Nat) : Int))) = true then
                   if (!(decide ((List.getD x1 (Int.toNat x3) zd5).2.2.2.2.2.1 = (IntKind.wrap .i64 ((IntKind.wrap .i64 ((IntKind.wrap .i64 ((IntKind.wrap .i64 ((IntKind.wrap .i64 (x2 + (1 : Int))) + (1 : Int))) + (1 : Int))) + (1 : Int))) + (1 : Int)))))) = true then
                    some (.inr (.inl ((-1 : Int), ())))
                   else
                    if (decide ((0 : Int) ≤ x3)) = true then
                     if (decide (x3 < ((List.length x1 : Nat) : Int))) = true then
                      if (!(decide ((List.getD x1 (Int.toNat x3) zd5).2.2.2.2.2.2.1 = (IntKind.wrap .i64 ((IntKind.wrap .i64 ((IntKind.wrap .i64 ((IntKind.wrap .i64 ((IntKind.wrap .i64 ((IntKind.wrap .i64 (x2 + (1 : Int))) + (1 : Int))) + (1 : Int))) + (1 : Int))) + (1 : Int))) + (1 : Int)))))) = true then
                       some (.inr (.inl ((-1 : Int), ())))
                      else
                       if (decide ((0 : Int) ≤ x3)) = true then
                        if (decide (x3 < ((List.length x1 : Nat) : Int))) = true then
                         if (laws_heldEntryS.pre (List.getD x1 (Int.toNat x3) zd5).2.2.2.2.2.2.2.1 (IntKind.wrap .i64 ((IntKind.wrap .i64 ((IntKind.wrap .i64 ((IntKind.wrap .i64 ((IntKind.wrap .i64 ((IntKind.wrap .i64 ((IntKind.wrap .i64 (x2 + (1 : Int))) + (1 : Int))) + (1 : Int))) + (1 : Int))) + (1 : Int))) + (1 : Int))) + (1 : Int)))) = true then
                          letB (laws_heldEntryS (List.getD x1 (Int.toNat x3) zd5).2.2.2.2.2.2.2.1 (IntKind.wrap .i64 ((IntKind.wrap .i64 ((IntKind.wrap .i64 ((IntKind.wrap .i64 ((IntKind.wrap .i64 ((IntKind.wrap .i64 ((IntKind.wrap .i64 (x2 + (1 : Int))) + (1 : Int))) + (1 : Int))) + (1 : Int))) + (1 : Int))) + (1 : Int))) + (1 : Int)))) fun v1 =>
                          if (decide (v1 < (0 : Int))) = true then
                           some (.inr (.inl ((-1 : Int), ())))
                          else
                           if (decide ((0 : Int) ≤ x3)) = true then
                            if (decide (x3 < ((List.length x1 : Nat) : Int))) = true then
                             if (!(decide ((3 : Int) = (0 : Int)))) = true then
                              if (!((List.getD x1 (Int.toNat x3) zd5).2.2.2.2.2.2.2.2.1 == (decide ((Int.tmod v1 (3 : Int)) = (0 : Int))))) = true then
                               some (.inr (.inl ((-1 : Int), ())))
                              else
                               if (decide ((0 : Int) ≤ x3)) = true then
                                if (decide (x3 < ((List.length x1 : Nat) : Int))) = true then
                                 if (laws_markText.pre (IntKind.wrap .i64 (v1 + (1 : Int)))) = true then
                                  letB (laws_markText (IntKind.wrap .i64 (v1 + (1 : Int)))) fun v2 =>
                                  if (!((List.getD x1 (Int.toNat x3) zd5).2.2.2.2.2.2.2.2.2.1 == v2)) = true then
                                   some (.inr (.inl ((-1 : Int), ())))
                                  else
                                   some (.inl (x1, ((IntKind.wrap .i64 ((IntKind.wrap .i64 (v1 + (1 : Int))) + (1 : Int))), ((IntKind.wrap .i64 (x3 + (1 : Int))), ()))))
                                 else
                                  none
                                else
                                 none
                               else
                                none
                             else
                              none
                            else
                             none
                           else
                            none
                         else
                          none
                        else
                         none
                       else
                        none
                     else
                      none
                    else
                     none
                  else
                   none
                 else
                  none
               else
                none
              else
               none
            else
             none
           else
            none
         else
          none
        else
         none
      else
       none
     else
      none
   else
    none
  else
   none
 else
  some (.inr (.inr (x2, ())))
abbrev wf (x0 : (List zt3)) (x1 : Int) : Prop := wfA [(.val (.sl 0 zk10) .f), (.val (.int .i64) .f)] (x0, (x1, ()))
noncomputable def raw (x0 : (List zt3)) (x1 : Int) : Option zt22 :=
 if (laws_heldRpcS.pre2 (x0, (x1, ((0 : Int), ())))) = true then
  letB (laws_heldRpcS.fn2 (x0, (x1, ((0 : Int), ())))) fun v1 =>
  match v1 with
  | .inl y =>
   some ((), y)
  | .inr y =>
   some ((), y)
 else
  none
theorem ok2 (x1 : List Rpc) (x2 x3 : Int) (hp : pre2 (x1, (x2, (x3, ()))) = true) : Rounds pre2 mu2 fn2 (x1, (x2, (x3, ()))) (raw2 x1 x2 x3) := by
  unfold raw2
  by_cases hlt : x3 < (x1.length : Int)
  · obtain ⟨h0, hk, hc⟩ := he_facts mk_Rpc_ok hp hlt zd5
    have bad := he_bad (m := mk_Rpc) (g := cnt_Rpc) hp hlt zd5
    have good := fun K hK => he_good mk_Rpc_ok (K := K) hp hlt zd5 hK
    generalize x1.getD x3.toNat zd5 = e at *
    simp only [cnt_Rpc] at hc
    have n7 := cntL_nn mk_Entry_ok e.2.2.2.2.2.2.2.1
    have w0 : IntKind.wrap .i64 (x2 + 1) = x2 + 1 := w64 (by omega) (by omega)
    have w1 : IntKind.wrap .i64 (x2 + 1 + 1) = x2 + 1 + 1 := w64 (by omega) (by omega)
    have w2 : IntKind.wrap .i64 (x2 + 1 + 1 + 1) = x2 + 1 + 1 + 1 := w64 (by omega) (by omega)
    have w3 : IntKind.wrap .i64 (x2 + 1 + 1 + 1 + 1) = x2 + 1 + 1 + 1 + 1 := w64 (by omega) (by omega)
    have w4 : IntKind.wrap .i64 (x2 + 1 + 1 + 1 + 1 + 1) = x2 + 1 + 1 + 1 + 1 + 1 := w64 (by omega) (by omega)
    have w5 : IntKind.wrap .i64 (x2 + 1 + 1 + 1 + 1 + 1 + 1) = x2 + 1 + 1 + 1 + 1 + 1 + 1 := w64 (by omega) (by omega)
    have w6 : IntKind.wrap .i64 (x2 + 1 + 1 + 1 + 1 + 1 + 1 + 1) = x2 + 1 + 1 + 1 + 1 + 1 + 1 + 1 := w64 (by omega) (by omega)
    have q7 : laws_heldEntryS.pre e.2.2.2.2.2.2.2.1 (x2 + 1 + 1 + 1 + 1 + 1 + 1 + 1) = true := heldEntryS_pre (by omega) (by omega)
    have w8 : IntKind.wrap .i64 (x2 + 1 + 1 + 1 + 1 + 1 + 1 + 1 + cntL cnt_Entry e.2.2.2.2.2.2.2.1 + 1) = x2 + 1 + 1 + 1 + 1 + 1 + 1 + 1 + cntL cnt_Entry e.2.2.2.2.2.2.2.1 + 1 := w64 (by omega) (by omega)
    have w9 : IntKind.wrap .i64 (x2 + 1 + 1 + 1 + 1 + 1 + 1 + 1 + cntL cnt_Entry e.2.2.2.2.2.2.2.1 + 1 + 1) = x2 + 1 + 1 + 1 + 1 + 1 + 1 + 1 + cntL cnt_Entry e.2.2.2.2.2.2.2.1 + 1 + 1 := w64 (by omega) (by omega)
    have p9 : laws_markText.pre (x2 + 1 + 1 + 1 + 1 + 1 + 1 + 1 + cntL cnt_Entry e.2.2.2.2.2.2.2.1 + 1) = true := by simp only [laws_markText.pre, decide_eq_true_eq]; omega
    simp only [letB, hlt, h0, decide_true, if_true, w0, w1, w2, w3, w4, w5, w6, q7, w8, w9, p9]
    by_cases c0 : e.1 = x2
    case neg => rw [if_pos (by simp [c0])]; exact bad fun h => c0 (congrArg (fun z : Rpc => z.1) h)
    rw [if_neg (by simp [c0])]
    by_cases c1 : e.2.1 = x2 + 1
    case neg => rw [if_pos (by simp [c1])]; exact bad fun h => c1 (congrArg (fun z : Rpc => z.2.1) h)
    rw [if_neg (by simp [c1])]
    by_cases c2 : e.2.2.1 = x2 + 1 + 1
    case neg => rw [if_pos (by simp [c2])]; exact bad fun h => c2 (congrArg (fun z : Rpc => z.2.2.1) h)
    rw [if_neg (by simp [c2])]
    by_cases c3 : e.2.2.2.1 = x2 + 1 + 1 + 1
    case neg => rw [if_pos (by simp [c3])]; exact bad fun h => c3 (congrArg (fun z : Rpc => z.2.2.2.1) h)
    rw [if_neg (by simp [c3])]
    by_cases c4 : e.2.2.2.2.1 = x2 + 1 + 1 + 1 + 1
    case neg => rw [if_pos (by simp [c4])]; exact bad fun h => c4 (congrArg (fun z : Rpc => z.2.2.2.2.1) h)
    rw [if_neg (by simp [c4])]
    by_cases c5 : e.2.2.2.2.2.1 = x2 + 1 + 1 + 1 + 1 + 1
    case neg => rw [if_pos (by simp [c5])]; exact bad fun h => c5 (congrArg (fun z : Rpc => z.2.2.2.2.2.1) h)
    rw [if_neg (by simp [c5])]
    by_cases c6 : e.2.2.2.2.2.2.1 = x2 + 1 + 1 + 1 + 1 + 1 + 1
    case neg => rw [if_pos (by simp [c6])]; exact bad fun h => c6 (congrArg (fun z : Rpc => z.2.2.2.2.2.2.1) h)
    rw [if_neg (by simp [c6])]
    by_cases c7 : e.2.2.2.2.2.2.2.1 = mkL mk_Entry cnt_Entry e.2.2.2.2.2.2.2.1 (x2 + 1 + 1 + 1 + 1 + 1 + 1 + 1)
    case neg => rw [show laws_heldEntryS e.2.2.2.2.2.2.2.1 (x2 + 1 + 1 + 1 + 1 + 1 + 1 + 1) = -1 from heldEntryS_neg c7, if_pos (by decide)]; exact bad fun h => c7 ((congrArg (fun z : Rpc => z.2.2.2.2.2.2.2.1) h).trans (by simp only [mk_Rpc]))
    rw [show laws_heldEntryS e.2.2.2.2.2.2.2.1 (x2 + 1 + 1 + 1 + 1 + 1 + 1 + 1) = x2 + 1 + 1 + 1 + 1 + 1 + 1 + 1 + cntL cnt_Entry e.2.2.2.2.2.2.2.1 from heldEntryS_pos c7, if_neg (by rw [decide_eq_true_eq]; omega)]
    try simp only [if_true, w0, w1, w2, w3, w4, w5, w6, q7, w8, w9, p9]
    by_cases c8 : e.2.2.2.2.2.2.2.2.1 = decide (Int.tmod (x2 + 1 + 1 + 1 + 1 + 1 + 1 + 1 + cntL cnt_Entry e.2.2.2.2.2.2.2.1) 3 = 0)
    case neg =>
      try rw [if_pos (show (!decide ((3 : Int) = 0)) = true from rfl)]
      rw [if_pos (by rw [beq_false_of_ne c8]; rfl)]; exact bad fun h => c8 (congrArg (fun z : Rpc => z.2.2.2.2.2.2.2.2.1) h)
    try rw [if_pos (show (!decide ((3 : Int) = 0)) = true from rfl)]
    rw [if_neg (by rw [c8, beq_self_eq_true]; decide)]
    by_cases c9 : e.2.2.2.2.2.2.2.2.2.1 = laws_markText (x2 + 1 + 1 + 1 + 1 + 1 + 1 + 1 + cntL cnt_Entry e.2.2.2.2.2.2.2.1 + 1)
    case neg => rw [if_pos (by simp [c9])]; exact bad fun h => c9 (congrArg (fun z : Rpc => z.2.2.2.2.2.2.2.2.2.1) h)
    rw [if_neg (by simp [c9])]
    exact good _ (by simp only [cnt_Rpc]; omega) (Prod.ext c0 (Prod.ext c1 (Prod.ext c2 (Prod.ext c3 (Prod.ext c4 (Prod.ext c5 (Prod.ext c6 (Prod.ext c7 (Prod.ext c8 (Prod.ext c9 rfl))))))))))
  · rw [if_neg (by simp [hlt])]; exact he_end hp hlt
theorem eq (x0 : List Rpc) (x1 : Int) (_ : wf x0 x1) (hp : pre x0 x1 = true) : raw x0 x1 = some ((), (laws_heldRpcS x0 x1, ())) := by
  unfold raw
  rw [if_pos (show pre2 _ = true from he_start mk_Rpc_ok hp)]
  exact heFn_start x0 x1
end laws_heldRpcS
theorem heldRpcS_pos {xs : List Rpc} {k : Int} (h : xs = mkL mk_Rpc cnt_Rpc xs k) : laws_heldRpcS xs k = k + cntL cnt_Rpc xs := heldN_pos h
theorem heldRpcS_neg {xs : List Rpc} {k : Int} (h : ¬ xs = mkL mk_Rpc cnt_Rpc xs k) : laws_heldRpcS xs k = -1 := heldN_neg h
theorem heldRpcS_pre {xs : List Rpc} {k : Int} (h0 : 0 ≤ k) (h1 : k + cntL cnt_Rpc xs ≤ 134217728) : laws_heldRpcS.pre xs k = true := mPre_iff.2 ⟨h0, h1⟩
theorem cntT_Rpc_le (x : Rpc) : cntT_Rpc x ≤ 32 * w_Rpc x := by
  have n7 := cntL_le cnt_Entry_le x.2.2.2.2.2.2.2.1
  simp only [w_Rpc, cntT_Rpc]; omega
theorem cnt_Rpc_le (x : Rpc) : cnt_Rpc x ≤ 32 + 32 * w_Rpc x := by
  have n7 := cntL_le cnt_Entry_le x.2.2.2.2.2.2.2.1
  simp only [w_Rpc, cnt_Rpc]; omega
def mkT_Peer (x : Peer) (k : Int) : Peer := (x.1, (mkT_Hard x.2.1 (k), (x.2.2.1, (mkL mk_Bool cnt_Bool x.2.2.2.1 (k + cntT_Hard x.2.1), (mkL mk_Int cnt_Int x.2.2.2.2.1 (k + cntT_Hard x.2.1 + cntL cnt_Bool x.2.2.2.1), (mkL mk_Int cnt_Int x.2.2.2.2.2.1 (k + cntT_Hard x.2.1 + cntL cnt_Bool x.2.2.2.1 + cntL cnt_Int x.2.2.2.2.1), (x.2.2.2.2.2.2.1, (mkT_Keep x.2.2.2.2.2.2.2.1 (k + cntT_Hard x.2.1 + cntL cnt_Bool x.2.2.2.1 + cntL cnt_Int x.2.2.2.2.1 + cntL cnt_Int x.2.2.2.2.2.1), (mkT_Disk x.2.2.2.2.2.2.2.2.1 (k + cntT_Hard x.2.1 + cntL cnt_Bool x.2.2.2.1 + cntL cnt_Int x.2.2.2.2.1 + cntL cnt_Int x.2.2.2.2.2.1 + cntT_Keep x.2.2.2.2.2.2.2.1), (mkL mk_Rpc cnt_Rpc x.2.2.2.2.2.2.2.2.2.1 (k + cntT_Hard x.2.1 + cntL cnt_Bool x.2.2.2.1 + cntL cnt_Int x.2.2.2.2.1 + cntL cnt_Int x.2.2.2.2.2.1 + cntT_Keep x.2.2.2.2.2.2.2.1 + cntT_Disk x.2.2.2.2.2.2.2.2.1), ()))))))))))
def cntT_Peer (x : Peer) : Int := cntT_Hard x.2.1 + cntL cnt_Bool x.2.2.2.1 + cntL cnt_Int x.2.2.2.2.1 + cntL cnt_Int x.2.2.2.2.2.1 + cntT_Keep x.2.2.2.2.2.2.2.1 + cntT_Disk x.2.2.2.2.2.2.2.2.1 + cntL cnt_Rpc x.2.2.2.2.2.2.2.2.2.1
theorem cntT_Peer_nn (x : Peer) : 0 ≤ cntT_Peer x := by
  have n1 := cntT_Hard_nn x.2.1
  have n3 := cntL_nn mk_Bool_ok x.2.2.2.1
  have n4 := cntL_nn mk_Int_ok x.2.2.2.2.1
  have n5 := cntL_nn mk_Int_ok x.2.2.2.2.2.1
  have n7 := cntT_Keep_nn x.2.2.2.2.2.2.2.1
  have n8 := cntT_Disk_nn x.2.2.2.2.2.2.2.2.1
  have n9 := cntL_nn mk_Rpc_ok x.2.2.2.2.2.2.2.2.2.1
  simp only [cntT_Peer]; omega
theorem mkT_Peer_keep (x : Peer) (k : Int) : cntT_Peer (mkT_Peer x k) = cntT_Peer x := by simp only [cntT_Peer, mkT_Peer, cntL_mkL mk_Bool_ok, cntL_mkL mk_Int_ok, cntL_mkL mk_Rpc_ok, mkT_Disk_keep, mkT_Hard_keep, mkT_Keep_keep]
theorem mkT_Peer_idem (x : Peer) (k : Int) : mkT_Peer (mkT_Peer x k) k = mkT_Peer x k := by simp only [mkT_Peer, cntL_mkL mk_Bool_ok, cntL_mkL mk_Int_ok, cntL_mkL mk_Rpc_ok, mkT_Disk_keep, mkT_Hard_keep, mkT_Keep_keep, mkL_mkL mk_Bool_ok, mkL_mkL mk_Int_ok, mkL_mkL mk_Rpc_ok, mkT_Disk_idem, mkT_Hard_idem, mkT_Keep_idem]
def w_Peer (x : Peer) : Int := w_Hard x.2.1 + wL w_Bool x.2.2.2.1 + wL w_Int x.2.2.2.2.1 + wL w_Int x.2.2.2.2.2.1 + w_Keep x.2.2.2.2.2.2.2.1 + w_Disk x.2.2.2.2.2.2.2.2.1 + wL w_Rpc x.2.2.2.2.2.2.2.2.2.1
theorem w_Peer_nn (x : Peer) : 0 ≤ w_Peer x := by
  have n3 := wL_nn w_Bool_nn x.2.2.2.1
  have n4 := wL_nn w_Int_nn x.2.2.2.2.1
  have n5 := wL_nn w_Int_nn x.2.2.2.2.2.1
  have n9 := wL_nn w_Rpc_nn x.2.2.2.2.2.2.2.2.2.1
  have n1 := w_Hard_nn x.2.1
  have n7 := w_Keep_nn x.2.2.2.2.2.2.2.1
  have n8 := w_Disk_nn x.2.2.2.2.2.2.2.2.1
  simp only [w_Peer]; omega
noncomputable def laws_eqPeer (a b : Peer) : Bool := same a b
namespace laws_eqPeer
abbrev wf (x0 : zt2) (x1 : zt2) : Prop := wfA [(.val zk1 .f), (.val zk1 .f)] (x0, (x1, ()))
noncomputable def raw (x0 : zt2) (x1 : zt2) : Option zt25 :=
 if (!(decide (x0.1 = x1.1))) = true then
  some ((), (false, ()))
 else
  letB (laws_eqHard x0.2.1 x1.2.1) fun v1 =>
  if (!v1) = true then
   some ((), (false, ()))
  else
   if (!(decide (x0.2.2.1 = x1.2.2.1))) = true then
    some ((), (false, ()))
   else
    letB (laws_eqBoolS x0.2.2.2.1 x1.2.2.2.1) fun v2 =>
    if (!v2) = true then
     some ((), (false, ()))
    else
     letB (laws_eqIntS x0.2.2.2.2.1 x1.2.2.2.2.1) fun v3 =>
     if (!v3) = true then
      some ((), (false, ()))
     else
      letB (laws_eqIntS x0.2.2.2.2.2.1 x1.2.2.2.2.2.1) fun v4 =>
      if (!v4) = true then
       some ((), (false, ()))
      else
       if (!(decide (x0.2.2.2.2.2.2.1 = x1.2.2.2.2.2.2.1))) = true then
        some ((), (false, ()))
       else
        letB (laws_eqKeep x0.2.2.2.2.2.2.2.1 x1.2.2.2.2.2.2.2.1) fun v5 =>
        if (!v5) = true then
         some ((), (false, ()))
        else
         letB (laws_eqDisk x0.2.2.2.2.2.2.2.2.1 x1.2.2.2.2.2.2.2.2.1) fun v6 =>
         if (!v6) = true then
          some ((), (false, ()))
         else
          letB (laws_eqRpcS x0.2.2.2.2.2.2.2.2.2.1 x1.2.2.2.2.2.2.2.2.2.1) fun v7 =>
          if (!v7) = true then
           some ((), (false, ()))
          else
           some ((), (true, ()))
theorem eq (x0 x1 : Peer) (_ : wf x0 x1) : raw x0 x1 = some ((), (laws_eqPeer x0 x1, ())) := by
  unfold raw laws_eqPeer
  try simp only [letB]
  by_cases c0 : x0.1 = x1.1
  case neg => rw [if_pos (by simp [c0]), same_false.2 (fun h => c0 (congrArg (fun z : Peer => z.1) h))]
  rw [if_neg (by simp [c0])]
  by_cases c1 : x0.2.1 = x1.2.1
  case neg => rw [if_pos (by rw [laws_eqHard, same_false.2 c1]; rfl), same_false.2 (fun h => c1 (congrArg (fun z : Peer => z.2.1) h))]
  rw [if_neg (by rw [laws_eqHard, same_true.2 c1]; simp)]
  by_cases c2 : x0.2.2.1 = x1.2.2.1
  case neg => rw [if_pos (by simp [c2]), same_false.2 (fun h => c2 (congrArg (fun z : Peer => z.2.2.1) h))]
  rw [if_neg (by simp [c2])]
  by_cases c3 : x0.2.2.2.1 = x1.2.2.2.1
  case neg => rw [if_pos (by rw [laws_eqBoolS, same_false.2 c3]; rfl), same_false.2 (fun h => c3 (congrArg (fun z : Peer => z.2.2.2.1) h))]
  rw [if_neg (by rw [laws_eqBoolS, same_true.2 c3]; simp)]
  by_cases c4 : x0.2.2.2.2.1 = x1.2.2.2.2.1
  case neg => rw [if_pos (by rw [laws_eqIntS, same_false.2 c4]; rfl), same_false.2 (fun h => c4 (congrArg (fun z : Peer => z.2.2.2.2.1) h))]
  rw [if_neg (by rw [laws_eqIntS, same_true.2 c4]; simp)]
  by_cases c5 : x0.2.2.2.2.2.1 = x1.2.2.2.2.2.1
  case neg => rw [if_pos (by rw [laws_eqIntS, same_false.2 c5]; rfl), same_false.2 (fun h => c5 (congrArg (fun z : Peer => z.2.2.2.2.2.1) h))]
  rw [if_neg (by rw [laws_eqIntS, same_true.2 c5]; simp)]
  by_cases c6 : x0.2.2.2.2.2.2.1 = x1.2.2.2.2.2.2.1
  case neg => rw [if_pos (by simp [c6]), same_false.2 (fun h => c6 (congrArg (fun z : Peer => z.2.2.2.2.2.2.1) h))]
  rw [if_neg (by simp [c6])]
  by_cases c7 : x0.2.2.2.2.2.2.2.1 = x1.2.2.2.2.2.2.2.1
  case neg => rw [if_pos (by rw [laws_eqKeep, same_false.2 c7]; rfl), same_false.2 (fun h => c7 (congrArg (fun z : Peer => z.2.2.2.2.2.2.2.1) h))]
  rw [if_neg (by rw [laws_eqKeep, same_true.2 c7]; simp)]
  by_cases c8 : x0.2.2.2.2.2.2.2.2.1 = x1.2.2.2.2.2.2.2.2.1
  case neg => rw [if_pos (by rw [laws_eqDisk, same_false.2 c8]; rfl), same_false.2 (fun h => c8 (congrArg (fun z : Peer => z.2.2.2.2.2.2.2.2.1) h))]
  rw [if_neg (by rw [laws_eqDisk, same_true.2 c8]; simp)]
  by_cases c9 : x0.2.2.2.2.2.2.2.2.2.1 = x1.2.2.2.2.2.2.2.2.2.1
  case neg => rw [if_pos (by rw [laws_eqRpcS, same_false.2 c9]; rfl), same_false.2 (fun h => c9 (congrArg (fun z : Peer => z.2.2.2.2.2.2.2.2.2.1) h))]
  rw [if_neg (by rw [laws_eqRpcS, same_true.2 c9]; simp)]
  rw [same_true.2 (Prod.ext c0 (Prod.ext c1 (Prod.ext c2 (Prod.ext c3 (Prod.ext c4 (Prod.ext c5 (Prod.ext c6 (Prod.ext c7 (Prod.ext c8 (Prod.ext c9 rfl))))))))))]
end laws_eqPeer
def laws_toPeer (x : Peer) : Peer := x
namespace laws_toPeer
def pre (x : Peer) : Bool := laws_toHard.pre x.2.1 && laws_toBoolS.pre x.2.2.2.1 && laws_toIntS.pre x.2.2.2.2.1 && laws_toIntS.pre x.2.2.2.2.2.1 && laws_toKeep.pre x.2.2.2.2.2.2.2.1 && laws_toDisk.pre x.2.2.2.2.2.2.2.2.1 && laws_toRpcS.pre x.2.2.2.2.2.2.2.2.2.1
abbrev wf (x0 : zt2) : Prop := wfA [(.val zk1 .f)] (x0, ())
noncomputable def raw (x0 : zt2) : Option (Unit × (zt2 × Unit)) :=
 if (laws_toHard.pre x0.2.1) = true then
  if (laws_toBoolS.pre x0.2.2.2.1) = true then
   if (laws_toIntS.pre x0.2.2.2.2.1) = true then
    if (laws_toIntS.pre x0.2.2.2.2.2.1) = true then
     if (laws_toKeep.pre x0.2.2.2.2.2.2.2.1) = true then
      if (laws_toDisk.pre x0.2.2.2.2.2.2.2.2.1) = true then
       if (laws_toRpcS.pre x0.2.2.2.2.2.2.2.2.2.1) = true then
        letB (laws_toHard x0.2.1) fun v1 =>
        letB (laws_toBoolS x0.2.2.2.1) fun v2 =>
        letB (laws_toIntS x0.2.2.2.2.1) fun v3 =>
        letB (laws_toIntS x0.2.2.2.2.2.1) fun v4 =>
        letB (laws_toKeep x0.2.2.2.2.2.2.2.1) fun v5 =>
        letB (laws_toDisk x0.2.2.2.2.2.2.2.2.1) fun v6 =>
        letB (laws_toRpcS x0.2.2.2.2.2.2.2.2.2.1) fun v7 =>
        some ((), ((x0.1, (v1, (x0.2.2.1, (v2, (v3, (v4, (x0.2.2.2.2.2.2.1, (v5, (v6, (v7, ())))))))))), ()))
       else
        none
      else
       none
     else
      none
    else
     none
   else
    none
  else
   none
 else
  none
theorem eq (x0 : Peer) (_ : wf x0) (hp : pre x0 = true) : raw x0 = some ((), (laws_toPeer x0, ())) := by
  simp only [pre, Bool.and_eq_true] at hp
  unfold raw
  try simp only [letB]
  rw [if_pos hp.1.1.1.1.1.1, if_pos hp.1.1.1.1.1.2, if_pos hp.1.1.1.1.2, if_pos hp.1.1.1.2, if_pos hp.1.1.2, if_pos hp.1.2, if_pos hp.2]
  rfl
end laws_toPeer
theorem toPeer_pre {x : Peer} (h : w_Peer x ≤ 16777216) : laws_toPeer.pre x = true := by
  simp only [w_Peer] at h
  have n1 := w_Hard_nn x.2.1
  have n3 := wL_nn w_Bool_nn x.2.2.2.1
  have n4 := wL_nn w_Int_nn x.2.2.2.2.1
  have n5 := wL_nn w_Int_nn x.2.2.2.2.2.1
  have n7 := w_Keep_nn x.2.2.2.2.2.2.2.1
  have n8 := w_Disk_nn x.2.2.2.2.2.2.2.2.1
  have n9 := wL_nn w_Rpc_nn x.2.2.2.2.2.2.2.2.2.1
  simp only [laws_toPeer.pre, Bool.and_eq_true]
  exact ⟨⟨⟨⟨⟨⟨toHard_pre (by omega), toBoolS_pre (by omega)⟩, toIntS_pre (by omega)⟩, toIntS_pre (by omega)⟩, toKeep_pre (by omega)⟩, toDisk_pre (by omega)⟩, toRpcS_pre (by omega)⟩
def laws_szPeer (x : Peer) (l : Int) : Int := szN (w_Peer x) l
namespace laws_szPeer
def pre (_ : Peer) (l : Int) : Bool := decide (0 ≤ l) && decide (l ≤ maxLen)
abbrev wf (x0 : zt2) (x1 : Int) : Prop := wfA [(.val zk1 .f), (.val (.int .i64) .f)] (x0, (x1, ()))
noncomputable def raw (x0 : zt2) (x1 : Int) : Option zt22 :=
 if (laws_szHard.pre x0.2.1 x1) = true then
  letB (laws_szHard x0.2.1 x1) fun v1 =>
  if (decide (v1 < (0 : Int))) = true then
   some ((), ((-1 : Int), ()))
  else
   if (laws_szBoolS.pre x0.2.2.2.1 v1) = true then
    letB (laws_szBoolS x0.2.2.2.1 v1) fun v2 =>
    if (decide (v2 < (0 : Int))) = true then
     some ((), ((-1 : Int), ()))
    else
     if (laws_szIntS.pre x0.2.2.2.2.1 v2) = true then
      letB (laws_szIntS x0.2.2.2.2.1 v2) fun v3 =>
      if (decide (v3 < (0 : Int))) = true then
       some ((), ((-1 : Int), ()))
      else
       if (laws_szIntS.pre x0.2.2.2.2.2.1 v3) = true then
        letB (laws_szIntS x0.2.2.2.2.2.1 v3) fun v4 =>
        if (decide (v4 < (0 : Int))) = true then
         some ((), ((-1 : Int), ()))
        else
         if (laws_szKeep.pre x0.2.2.2.2.2.2.2.1 v4) = true then
          letB (laws_szKeep x0.2.2.2.2.2.2.2.1 v4) fun v5 =>
          if (decide (v5 < (0 : Int))) = true then
           some ((), ((-1 : Int), ()))
          else
           if (laws_szDisk.pre x0.2.2.2.2.2.2.2.2.1 v5) = true then
            letB (laws_szDisk x0.2.2.2.2.2.2.2.2.1 v5) fun v6 =>
            if (decide (v6 < (0 : Int))) = true then
             some ((), ((-1 : Int), ()))
            else
             if (laws_szRpcS.pre x0.2.2.2.2.2.2.2.2.2.1 v6) = true then
              letB (laws_szRpcS x0.2.2.2.2.2.2.2.2.2.1 v6) fun v7 =>
              if (decide (v7 < (0 : Int))) = true then
               some ((), ((-1 : Int), ()))
              else
               some ((), (v7, ()))
             else
              none
           else
            none
         else
          none
       else
        none
     else
      none
   else
    none
 else
  none
theorem eq (x0 : Peer) (x1 : Int) (hw : wf x0 x1) (hp : pre x0 x1 = true) : raw x0 x1 = some ((), (laws_szPeer x0 x1, ())) := by
  simp only [pre, Bool.and_eq_true, decide_eq_true_eq] at hp
  have hM := maxLen_eq
  have t1 := w_Hard_nn x0.2.1
  have t3 := wL_nn w_Bool_nn x0.2.2.2.1
  have t4 := wL_nn w_Int_nn x0.2.2.2.2.1
  have t5 := wL_nn w_Int_nn x0.2.2.2.2.2.1
  have t7 := w_Keep_nn x0.2.2.2.2.2.2.2.1
  have t8 := w_Disk_nn x0.2.2.2.2.2.2.2.2.1
  have t9 := wL_nn w_Rpc_nn x0.2.2.2.2.2.2.2.2.2.1
  unfold raw
  try simp only [letB]
  rw [if_pos (show laws_szHard.pre _ _ = true by simp only [laws_szHard.pre, Bool.and_eq_true, decide_eq_true_eq]; omega)]
  by_cases c1 : x1 - w_Hard x0.2.1 < 0
  · rw [show laws_szHard x0.2.1 (x1) = -1 from szN_neg c1, if_pos (by decide), show laws_szPeer x0 x1 = -1 from szN_neg (by simp only [w_Peer]; omega)]
  rw [show laws_szHard x0.2.1 (x1) = x1 - w_Hard x0.2.1 from szN_pos c1, if_neg (by rw [decide_eq_true_eq]; exact c1)]
  rw [if_pos (show laws_szBoolS.pre _ _ = true by simp only [laws_szBoolS.pre, Bool.and_eq_true, decide_eq_true_eq]; omega)]
  by_cases c3 : x1 - w_Hard x0.2.1 - wL w_Bool x0.2.2.2.1 < 0
  · rw [show laws_szBoolS x0.2.2.2.1 (x1 - w_Hard x0.2.1) = -1 from szN_neg c3, if_pos (by decide), show laws_szPeer x0 x1 = -1 from szN_neg (by simp only [w_Peer]; omega)]
  rw [show laws_szBoolS x0.2.2.2.1 (x1 - w_Hard x0.2.1) = x1 - w_Hard x0.2.1 - wL w_Bool x0.2.2.2.1 from szN_pos c3, if_neg (by rw [decide_eq_true_eq]; exact c3)]
  rw [if_pos (show laws_szIntS.pre _ _ = true by simp only [laws_szIntS.pre, Bool.and_eq_true, decide_eq_true_eq]; omega)]
  by_cases c4 : x1 - w_Hard x0.2.1 - wL w_Bool x0.2.2.2.1 - wL w_Int x0.2.2.2.2.1 < 0
  · rw [show laws_szIntS x0.2.2.2.2.1 (x1 - w_Hard x0.2.1 - wL w_Bool x0.2.2.2.1) = -1 from szN_neg c4, if_pos (by decide), show laws_szPeer x0 x1 = -1 from szN_neg (by simp only [w_Peer]; omega)]
  rw [show laws_szIntS x0.2.2.2.2.1 (x1 - w_Hard x0.2.1 - wL w_Bool x0.2.2.2.1) = x1 - w_Hard x0.2.1 - wL w_Bool x0.2.2.2.1 - wL w_Int x0.2.2.2.2.1 from szN_pos c4, if_neg (by rw [decide_eq_true_eq]; exact c4)]
  rw [if_pos (show laws_szIntS.pre _ _ = true by simp only [laws_szIntS.pre, Bool.and_eq_true, decide_eq_true_eq]; omega)]
  by_cases c5 : x1 - w_Hard x0.2.1 - wL w_Bool x0.2.2.2.1 - wL w_Int x0.2.2.2.2.1 - wL w_Int x0.2.2.2.2.2.1 < 0
  · rw [show laws_szIntS x0.2.2.2.2.2.1 (x1 - w_Hard x0.2.1 - wL w_Bool x0.2.2.2.1 - wL w_Int x0.2.2.2.2.1) = -1 from szN_neg c5, if_pos (by decide), show laws_szPeer x0 x1 = -1 from szN_neg (by simp only [w_Peer]; omega)]
  rw [show laws_szIntS x0.2.2.2.2.2.1 (x1 - w_Hard x0.2.1 - wL w_Bool x0.2.2.2.1 - wL w_Int x0.2.2.2.2.1) = x1 - w_Hard x0.2.1 - wL w_Bool x0.2.2.2.1 - wL w_Int x0.2.2.2.2.1 - wL w_Int x0.2.2.2.2.2.1 from szN_pos c5, if_neg (by rw [decide_eq_true_eq]; exact c5)]
  rw [if_pos (show laws_szKeep.pre _ _ = true by simp only [laws_szKeep.pre, Bool.and_eq_true, decide_eq_true_eq]; omega)]
  by_cases c7 : x1 - w_Hard x0.2.1 - wL w_Bool x0.2.2.2.1 - wL w_Int x0.2.2.2.2.1 - wL w_Int x0.2.2.2.2.2.1 - w_Keep x0.2.2.2.2.2.2.2.1 < 0
  · rw [show laws_szKeep x0.2.2.2.2.2.2.2.1 (x1 - w_Hard x0.2.1 - wL w_Bool x0.2.2.2.1 - wL w_Int x0.2.2.2.2.1 - wL w_Int x0.2.2.2.2.2.1) = -1 from szN_neg c7, if_pos (by decide), show laws_szPeer x0 x1 = -1 from szN_neg (by simp only [w_Peer]; omega)]
  rw [show laws_szKeep x0.2.2.2.2.2.2.2.1 (x1 - w_Hard x0.2.1 - wL w_Bool x0.2.2.2.1 - wL w_Int x0.2.2.2.2.1 - wL w_Int x0.2.2.2.2.2.1) = x1 - w_Hard x0.2.1 - wL w_Bool x0.2.2.2.1 - wL w_Int x0.2.2.2.2.1 - wL w_Int x0.2.2.2.2.2.1 - w_Keep x0.2.2.2.2.2.2.2.1 from szN_pos c7, if_neg (by rw [decide_eq_true_eq]; exact c7)]
  rw [if_pos (show laws_szDisk.pre _ _ = true by simp only [laws_szDisk.pre, Bool.and_eq_true, decide_eq_true_eq]; omega)]
  by_cases c8 : x1 - w_Hard x0.2.1 - wL w_Bool x0.2.2.2.1 - wL w_Int x0.2.2.2.2.1 - wL w_Int x0.2.2.2.2.2.1 - w_Keep x0.2.2.2.2.2.2.2.1 - w_Disk x0.2.2.2.2.2.2.2.2.1 < 0
  · rw [show laws_szDisk x0.2.2.2.2.2.2.2.2.1 (x1 - w_Hard x0.2.1 - wL w_Bool x0.2.2.2.1 - wL w_Int x0.2.2.2.2.1 - wL w_Int x0.2.2.2.2.2.1 - w_Keep x0.2.2.2.2.2.2.2.1) = -1 from szN_neg c8, if_pos (by decide), show laws_szPeer x0 x1 = -1 from szN_neg (by simp only [w_Peer]; omega)]
  rw [show laws_szDisk x0.2.2.2.2.2.2.2.2.1 (x1 - w_Hard x0.2.1 - wL w_Bool x0.2.2.2.1 - wL w_Int x0.2.2.2.2.1 - wL w_Int x0.2.2.2.2.2.1 - w_Keep x0.2.2.2.2.2.2.2.1) = x1 - w_Hard x0.2.1 - wL w_Bool x0.2.2.2.1 - wL w_Int x0.2.2.2.2.1 - wL w_Int x0.2.2.2.2.2.1 - w_Keep x0.2.2.2.2.2.2.2.1 - w_Disk x0.2.2.2.2.2.2.2.2.1 from szN_pos c8, if_neg (by rw [decide_eq_true_eq]; exact c8)]
  rw [if_pos (show laws_szRpcS.pre _ _ = true by simp only [laws_szRpcS.pre, Bool.and_eq_true, decide_eq_true_eq]; omega)]
  by_cases c9 : x1 - w_Hard x0.2.1 - wL w_Bool x0.2.2.2.1 - wL w_Int x0.2.2.2.2.1 - wL w_Int x0.2.2.2.2.2.1 - w_Keep x0.2.2.2.2.2.2.2.1 - w_Disk x0.2.2.2.2.2.2.2.2.1 - wL w_Rpc x0.2.2.2.2.2.2.2.2.2.1 < 0
  · rw [show laws_szRpcS x0.2.2.2.2.2.2.2.2.2.1 (x1 - w_Hard x0.2.1 - wL w_Bool x0.2.2.2.1 - wL w_Int x0.2.2.2.2.1 - wL w_Int x0.2.2.2.2.2.1 - w_Keep x0.2.2.2.2.2.2.2.1 - w_Disk x0.2.2.2.2.2.2.2.2.1) = -1 from szN_neg c9, if_pos (by decide), show laws_szPeer x0 x1 = -1 from szN_neg (by simp only [w_Peer]; omega)]
  rw [show laws_szRpcS x0.2.2.2.2.2.2.2.2.2.1 (x1 - w_Hard x0.2.1 - wL w_Bool x0.2.2.2.1 - wL w_Int x0.2.2.2.2.1 - wL w_Int x0.2.2.2.2.2.1 - w_Keep x0.2.2.2.2.2.2.2.1 - w_Disk x0.2.2.2.2.2.2.2.2.1) = x1 - w_Hard x0.2.1 - wL w_Bool x0.2.2.2.1 - wL w_Int x0.2.2.2.2.1 - wL w_Int x0.2.2.2.2.2.1 - w_Keep x0.2.2.2.2.2.2.2.1 - w_Disk x0.2.2.2.2.2.2.2.2.1 - wL w_Rpc x0.2.2.2.2.2.2.2.2.2.1 from szN_pos c9, if_neg (by rw [decide_eq_true_eq]; exact c9)]
  rw [show laws_szPeer x0 x1 = x1 - w_Hard x0.2.1 - wL w_Bool x0.2.2.2.1 - wL w_Int x0.2.2.2.2.1 - wL w_Int x0.2.2.2.2.2.1 - w_Keep x0.2.2.2.2.2.2.2.1 - w_Disk x0.2.2.2.2.2.2.2.2.1 - wL w_Rpc x0.2.2.2.2.2.2.2.2.2.1 from by rw [laws_szPeer, szN_pos (by simp only [w_Peer]; omega)]; simp only [w_Peer]; omega]
end laws_szPeer
def laws_markPeer (x : Peer) (k : Int) : Peer × Int := (mkT_Peer x k, k + cntT_Peer x)
namespace laws_markPeer
def pre (x : Peer) (k : Int) : Bool := decide (0 ≤ k) && decide (k + cntT_Peer x ≤ 134217728)
abbrev wf (x0 : zt2) (x1 : Int) : Prop := wfA [(.mut zk1), (.val (.int .i64) .f)] (x0, (x1, ()))
noncomputable def raw (x0 : zt2) (x1 : Int) : Option ((zt2 × Unit) × (Int × Unit)) :=
 if (laws_markHard.pre x0.2.1 x1) = true then
  letB (laws_markHard x0.2.1 x1) fun v1 =>
  if (laws_markBoolS.pre x0.2.2.2.1 v1.2) = true then
   letB (laws_markBoolS x0.2.2.2.1 v1.2) fun v2 =>
   if (laws_markIntS.pre x0.2.2.2.2.1 v2.2) = true then
    letB (laws_markIntS x0.2.2.2.2.1 v2.2) fun v3 =>
    if (laws_markIntS.pre x0.2.2.2.2.2.1 v3.2) = true then
     letB (laws_markIntS x0.2.2.2.2.2.1 v3.2) fun v4 =>
     if (laws_markKeep.pre x0.2.2.2.2.2.2.2.1 v4.2) = true then
      letB (laws_markKeep x0.2.2.2.2.2.2.2.1 v4.2) fun v5 =>
      if (laws_markDisk.pre x0.2.2.2.2.2.2.2.2.1 v5.2) = true then
       letB (laws_markDisk x0.2.2.2.2.2.2.2.2.1 v5.2) fun v6 =>
       if (laws_markRpcS.pre x0.2.2.2.2.2.2.2.2.2.1 v6.2) = true then
        letB (laws_markRpcS x0.2.2.2.2.2.2.2.2.2.1 v6.2) fun v7 =>
        some (((x0.1, ((x0.2.1.1, (x0.2.1.2.1, ((x0.2.1.2.2.1.1, (x0.2.1.2.2.1.2.1, (v1.1.2.2.1.2.2.1, x0.2.1.2.2.1.2.2.2))), ((v1.1.2.2.2.1.1, (v1.1.2.2.2.1.2.1, (v1.1.2.2.2.1.2.2.1, (x0.2.1.2.2.2.1.2.2.2.1, (v1.1.2.2.2.1.2.2.2.2.1, (v1.1.2.2.2.1.2.2.2.2.2.1, x0.2.1.2.2.2.1.2.2.2.2.2.2)))))), x0.2.1.2.2.2.2)))), (x0.2.2.1, (v2.1, (v3.1, (v4.1, (x0.2.2.2.2.2.2.1, ((v5.1.1, (v5.1.2.1, (v5.1.2.2.1, (x0.2.2.2.2.2.2.2.1.2.2.2.1, (v5.1.2.2.2.2.1, (v5.1.2.2.2.2.2.1, x0.2.2.2.2.2.2.2.1.2.2.2.2.2.2)))))), ((v6.1.1, x0.2.2.2.2.2.2.2.2.1.2), (v7.1, x0.2.2.2.2.2.2.2.2.2.2)))))))))), ()), (v7.2, ()))
       else
        none
      else
       none
     else
      none
    else
     none
   else
    none
  else
   none
 else
  none
theorem eq (x0 : Peer) (x1 : Int) (_ : wf x0 x1) (hp : pre x0 x1 = true) : raw x0 x1 = some (((laws_markPeer x0 x1).1, ()), ((laws_markPeer x0 x1).2, ())) := by
  simp only [pre, Bool.and_eq_true, decide_eq_true_eq] at hp
  simp only [cntT_Peer] at hp
  have n1 := cntT_Hard_nn x0.2.1
  have n3 := cntL_nn mk_Bool_ok x0.2.2.2.1
  have n4 := cntL_nn mk_Int_ok x0.2.2.2.2.1
  have n5 := cntL_nn mk_Int_ok x0.2.2.2.2.2.1
  have n7 := cntT_Keep_nn x0.2.2.2.2.2.2.2.1
  have n8 := cntT_Disk_nn x0.2.2.2.2.2.2.2.2.1
  have n9 := cntL_nn mk_Rpc_ok x0.2.2.2.2.2.2.2.2.2.1
  have q1 : laws_markHard.pre x0.2.1 (x1) = true := markHard_pre (by omega) (by omega)
  have q3 : laws_markBoolS.pre x0.2.2.2.1 (x1 + cntT_Hard x0.2.1) = true := markBoolS_pre (by omega) (by omega)
  have q4 : laws_markIntS.pre x0.2.2.2.2.1 (x1 + cntT_Hard x0.2.1 + cntL cnt_Bool x0.2.2.2.1) = true := markIntS_pre (by omega) (by omega)
  have q5 : laws_markIntS.pre x0.2.2.2.2.2.1 (x1 + cntT_Hard x0.2.1 + cntL cnt_Bool x0.2.2.2.1 + cntL cnt_Int x0.2.2.2.2.1) = true := markIntS_pre (by omega) (by omega)
  have q7 : laws_markKeep.pre x0.2.2.2.2.2.2.2.1 (x1 + cntT_Hard x0.2.1 + cntL cnt_Bool x0.2.2.2.1 + cntL cnt_Int x0.2.2.2.2.1 + cntL cnt_Int x0.2.2.2.2.2.1) = true := markKeep_pre (by omega) (by omega)
  have q8 : laws_markDisk.pre x0.2.2.2.2.2.2.2.2.1 (x1 + cntT_Hard x0.2.1 + cntL cnt_Bool x0.2.2.2.1 + cntL cnt_Int x0.2.2.2.2.1 + cntL cnt_Int x0.2.2.2.2.2.1 + cntT_Keep x0.2.2.2.2.2.2.2.1) = true := markDisk_pre (by omega) (by omega)
  have q9 : laws_markRpcS.pre x0.2.2.2.2.2.2.2.2.2.1 (x1 + cntT_Hard x0.2.1 + cntL cnt_Bool x0.2.2.2.1 + cntL cnt_Int x0.2.2.2.2.1 + cntL cnt_Int x0.2.2.2.2.2.1 + cntT_Keep x0.2.2.2.2.2.2.2.1 + cntT_Disk x0.2.2.2.2.2.2.2.2.1) = true := markRpcS_pre (by omega) (by omega)
  unfold raw
  simp only [letB, if_true, q1, q3, q4, q5, q7, q8, q9, markBoolS_eq, markDisk_eq, markHard_eq, markIntS_eq, markKeep_eq, markRpcS_eq]
  refine congrArg some (Prod.ext rfl (Prod.ext ?_ rfl))
  show _ = _
  simp only [laws_markPeer, cntT_Peer]; omega
end laws_markPeer
theorem markPeer_pre {x : Peer} {k : Int} (h0 : 0 ≤ k) (h1 : k + cntT_Peer x ≤ 134217728) : laws_markPeer.pre x k = true := by simp [laws_markPeer.pre, h0, h1]
noncomputable def laws_heldPeer (x : Peer) (k : Int) : Int := heldN mkT_Peer cntT_Peer x k
namespace laws_heldPeer
def pre (x : Peer) (k : Int) : Bool := decide (0 ≤ k) && decide (k + cntT_Peer x ≤ 134217728)
abbrev wf (x0 : zt2) (x1 : Int) : Prop := wfA [(.val zk1 .f), (.val (.int .i64) .f)] (x0, (x1, ()))
noncomputable def raw (x0 : zt2) (x1 : Int) : Option zt22 :=
 if (laws_heldHard.pre x0.2.1 x1) = true then
  letB (laws_heldHard x0.2.1 x1) fun v1 =>
  if (decide (v1 < (0 : Int))) = true then
   some ((), ((-1 : Int), ()))
  else
   if (laws_heldBoolS.pre x0.2.2.2.1 v1) = true then
    letB (laws_heldBoolS x0.2.2.2.1 v1) fun v2 =>
    if (decide (v2 < (0 : Int))) = true then
     some ((), ((-1 : Int), ()))
    else
     if (laws_heldIntS.pre x0.2.2.2.2.1 v2) = true then
      letB (laws_heldIntS x0.2.2.2.2.1 v2) fun v3 =>
      if (decide (v3 < (0 : Int))) = true then
       some ((), ((-1 : Int), ()))
      else
       if (laws_heldIntS.pre x0.2.2.2.2.2.1 v3) = true then
        letB (laws_heldIntS x0.2.2.2.2.2.1 v3) fun v4 =>
        if (decide (v4 < (0 : Int))) = true then
         some ((), ((-1 : Int), ()))
        else
         if (laws_heldKeep.pre x0.2.2.2.2.2.2.2.1 v4) = true then
          letB (laws_heldKeep x0.2.2.2.2.2.2.2.1 v4) fun v5 =>
          if (decide (v5 < (0 : Int))) = true then
           some ((), ((-1 : Int), ()))
          else
           if (laws_heldDisk.pre x0.2.2.2.2.2.2.2.2.1 v5) = true then
            letB (laws_heldDisk x0.2.2.2.2.2.2.2.2.1 v5) fun v6 =>
            if (decide (v6 < (0 : Int))) = true then
             some ((), ((-1 : Int), ()))
            else
             if (laws_heldRpcS.pre x0.2.2.2.2.2.2.2.2.2.1 v6) = true then
              letB (laws_heldRpcS x0.2.2.2.2.2.2.2.2.2.1 v6) fun v7 =>
              if (decide (v7 < (0 : Int))) = true then
               some ((), ((-1 : Int), ()))
              else
               some ((), (v7, ()))
             else
              none
           else
            none
         else
          none
       else
        none
     else
      none
   else
    none
 else
  none
theorem eq (x0 : Peer) (x1 : Int) (_ : wf x0 x1) (hp : pre x0 x1 = true) : raw x0 x1 = some ((), (laws_heldPeer x0 x1, ())) := by
  simp only [pre, Bool.and_eq_true, decide_eq_true_eq] at hp
  simp only [cntT_Peer] at hp
  have n1 := cntT_Hard_nn x0.2.1
  have n3 := cntL_nn mk_Bool_ok x0.2.2.2.1
  have n4 := cntL_nn mk_Int_ok x0.2.2.2.2.1
  have n5 := cntL_nn mk_Int_ok x0.2.2.2.2.2.1
  have n7 := cntT_Keep_nn x0.2.2.2.2.2.2.2.1
  have n8 := cntT_Disk_nn x0.2.2.2.2.2.2.2.2.1
  have n9 := cntL_nn mk_Rpc_ok x0.2.2.2.2.2.2.2.2.2.1
  have q1 : laws_heldHard.pre x0.2.1 (x1) = true := heldHard_pre (by omega) (by omega)
  have q3 : laws_heldBoolS.pre x0.2.2.2.1 (x1 + cntT_Hard x0.2.1) = true := heldBoolS_pre (by omega) (by omega)
  have q4 : laws_heldIntS.pre x0.2.2.2.2.1 (x1 + cntT_Hard x0.2.1 + cntL cnt_Bool x0.2.2.2.1) = true := heldIntS_pre (by omega) (by omega)
  have q5 : laws_heldIntS.pre x0.2.2.2.2.2.1 (x1 + cntT_Hard x0.2.1 + cntL cnt_Bool x0.2.2.2.1 + cntL cnt_Int x0.2.2.2.2.1) = true := heldIntS_pre (by omega) (by omega)
  have q7 : laws_heldKeep.pre x0.2.2.2.2.2.2.2.1 (x1 + cntT_Hard x0.2.1 + cntL cnt_Bool x0.2.2.2.1 + cntL cnt_Int x0.2.2.2.2.1 + cntL cnt_Int x0.2.2.2.2.2.1) = true := heldKeep_pre (by omega) (by omega)
  have q8 : laws_heldDisk.pre x0.2.2.2.2.2.2.2.2.1 (x1 + cntT_Hard x0.2.1 + cntL cnt_Bool x0.2.2.2.1 + cntL cnt_Int x0.2.2.2.2.1 + cntL cnt_Int x0.2.2.2.2.2.1 + cntT_Keep x0.2.2.2.2.2.2.2.1) = true := heldDisk_pre (by omega) (by omega)
  have q9 : laws_heldRpcS.pre x0.2.2.2.2.2.2.2.2.2.1 (x1 + cntT_Hard x0.2.1 + cntL cnt_Bool x0.2.2.2.1 + cntL cnt_Int x0.2.2.2.2.1 + cntL cnt_Int x0.2.2.2.2.2.1 + cntT_Keep x0.2.2.2.2.2.2.2.1 + cntT_Disk x0.2.2.2.2.2.2.2.2.1) = true := heldRpcS_pre (by omega) (by omega)
  unfold raw laws_heldPeer
  simp only [letB, if_true, q1, q3, q4, q5, q7, q8, q9]
  by_cases c1 : x0.2.1 = mkT_Hard x0.2.1 (x1)
  case neg => rw [show laws_heldHard x0.2.1 (x1) = -1 from heldHard_neg c1, if_pos (by decide), heldN_neg (fun h => c1 (congrArg (fun z : Peer => z.2.1) h))]
  rw [show laws_heldHard x0.2.1 (x1) = x1 + cntT_Hard x0.2.1 from heldHard_pos c1, if_neg (by rw [decide_eq_true_eq]; omega)]
  try simp only [if_true, q1, q3, q4, q5, q7, q8, q9]
  by_cases c3 : x0.2.2.2.1 = mkL mk_Bool cnt_Bool x0.2.2.2.1 (x1 + cntT_Hard x0.2.1)
  case neg => rw [show laws_heldBoolS x0.2.2.2.1 (x1 + cntT_Hard x0.2.1) = -1 from heldBoolS_neg c3, if_pos (by decide), heldN_neg (fun h => c3 (congrArg (fun z : Peer => z.2.2.2.1) h))]
  rw [show laws_heldBoolS x0.2.2.2.1 (x1 + cntT_Hard x0.2.1) = x1 + cntT_Hard x0.2.1 + cntL cnt_Bool x0.2.2.2.1 from heldBoolS_pos c3, if_neg (by rw [decide_eq_true_eq]; omega)]
  try simp only [if_true, q1, q3, q4, q5, q7, q8, q9]
  by_cases c4 : x0.2.2.2.2.1 = mkL mk_Int cnt_Int x0.2.2.2.2.1 (x1 + cntT_Hard x0.2.1 + cntL cnt_Bool x0.2.2.2.1)
  case neg => rw [show laws_heldIntS x0.2.2.2.2.1 (x1 + cntT_Hard x0.2.1 + cntL cnt_Bool x0.2.2.2.1) = -1 from heldIntS_neg c4, if_pos (by decide), heldN_neg (fun h => c4 (congrArg (fun z : Peer => z.2.2.2.2.1) h))]
  rw [show laws_heldIntS x0.2.2.2.2.1 (x1 + cntT_Hard x0.2.1 + cntL cnt_Bool x0.2.2.2.1) = x1 + cntT_Hard x0.2.1 + cntL cnt_Bool x0.2.2.2.1 + cntL cnt_Int x0.2.2.2.2.1 from heldIntS_pos c4, if_neg (by rw [decide_eq_true_eq]; omega)]
  try simp only [if_true, q1, q3, q4, q5, q7, q8, q9]
  by_cases c5 : x0.2.2.2.2.2.1 = mkL mk_Int cnt_Int x0.2.2.2.2.2.1 (x1 + cntT_Hard x0.2.1 + cntL cnt_Bool x0.2.2.2.1 + cntL cnt_Int x0.2.2.2.2.1)
  case neg => rw [show laws_heldIntS x0.2.2.2.2.2.1 (x1 + cntT_Hard x0.2.1 + cntL cnt_Bool x0.2.2.2.1 + cntL cnt_Int x0.2.2.2.2.1) = -1 from heldIntS_neg c5, if_pos (by decide), heldN_neg (fun h => c5 (congrArg (fun z : Peer => z.2.2.2.2.2.1) h))]
  rw [show laws_heldIntS x0.2.2.2.2.2.1 (x1 + cntT_Hard x0.2.1 + cntL cnt_Bool x0.2.2.2.1 + cntL cnt_Int x0.2.2.2.2.1) = x1 + cntT_Hard x0.2.1 + cntL cnt_Bool x0.2.2.2.1 + cntL cnt_Int x0.2.2.2.2.1 + cntL cnt_Int x0.2.2.2.2.2.1 from heldIntS_pos c5, if_neg (by rw [decide_eq_true_eq]; omega)]
  try simp only [if_true, q1, q3, q4, q5, q7, q8, q9]
  by_cases c7 : x0.2.2.2.2.2.2.2.1 = mkT_Keep x0.2.2.2.2.2.2.2.1 (x1 + cntT_Hard x0.2.1 + cntL cnt_Bool x0.2.2.2.1 + cntL cnt_Int x0.2.2.2.2.1 + cntL cnt_Int x0.2.2.2.2.2.1)
  case neg => rw [show laws_heldKeep x0.2.2.2.2.2.2.2.1 (x1 + cntT_Hard x0.2.1 + cntL cnt_Bool x0.2.2.2.1 + cntL cnt_Int x0.2.2.2.2.1 + cntL cnt_Int x0.2.2.2.2.2.1) = -1 from heldKeep_neg c7, if_pos (by decide), heldN_neg (fun h => c7 (congrArg (fun z : Peer => z.2.2.2.2.2.2.2.1) h))]
  rw [show laws_heldKeep x0.2.2.2.2.2.2.2.1 (x1 + cntT_Hard x0.2.1 + cntL cnt_Bool x0.2.2.2.1 + cntL cnt_Int x0.2.2.2.2.1 + cntL cnt_Int x0.2.2.2.2.2.1) = x1 + cntT_Hard x0.2.1 + cntL cnt_Bool x0.2.2.2.1 + cntL cnt_Int x0.2.2.2.2.1 + cntL cnt_Int x0.2.2.2.2.2.1 + cntT_Keep x0.2.2.2.2.2.2.2.1 from heldKeep_pos c7, if_neg (by rw [decide_eq_true_eq]; omega)]
  try simp only [if_true, q1, q3, q4, q5, q7, q8, q9]
  by_cases c8 : x0.2.2.2.2.2.2.2.2.1 = mkT_Disk x0.2.2.2.2.2.2.2.2.1 (x1 + cntT_Hard x0.2.1 + cntL cnt_Bool x0.2.2.2.1 + cntL cnt_Int x0.2.2.2.2.1 + cntL cnt_Int x0.2.2.2.2.2.1 + cntT_Keep x0.2.2.2.2.2.2.2.1)
  case neg => rw [show laws_heldDisk x0.2.2.2.2.2.2.2.2.1 (x1 + cntT_Hard x0.2.1 + cntL cnt_Bool x0.2.2.2.1 + cntL cnt_Int x0.2.2.2.2.1 + cntL cnt_Int x0.2.2.2.2.2.1 + cntT_Keep x0.2.2.2.2.2.2.2.1) = -1 from heldDisk_neg c8, if_pos (by decide), heldN_neg (fun h => c8 (congrArg (fun z : Peer => z.2.2.2.2.2.2.2.2.1) h))]
  rw [show laws_heldDisk x0.2.2.2.2.2.2.2.2.1 (x1 + cntT_Hard x0.2.1 + cntL cnt_Bool x0.2.2.2.1 + cntL cnt_Int x0.2.2.2.2.1 + cntL cnt_Int x0.2.2.2.2.2.1 + cntT_Keep x0.2.2.2.2.2.2.2.1) = x1 + cntT_Hard x0.2.1 + cntL cnt_Bool x0.2.2.2.1 + cntL cnt_Int x0.2.2.2.2.1 + cntL cnt_Int x0.2.2.2.2.2.1 + cntT_Keep x0.2.2.2.2.2.2.2.1 + cntT_Disk x0.2.2.2.2.2.2.2.2.1 from heldDisk_pos c8, if_neg (by rw [decide_eq_true_eq]; omega)]
  try simp only [if_true, q1, q3, q4, q5, q7, q8, q9]
  by_cases c9 : x0.2.2.2.2.2.2.2.2.2.1 = mkL mk_Rpc cnt_Rpc x0.2.2.2.2.2.2.2.2.2.1 (x1 + cntT_Hard x0.2.1 + cntL cnt_Bool x0.2.2.2.1 + cntL cnt_Int x0.2.2.2.2.1 + cntL cnt_Int x0.2.2.2.2.2.1 + cntT_Keep x0.2.2.2.2.2.2.2.1 + cntT_Disk x0.2.2.2.2.2.2.2.2.1)
  case neg => rw [show laws_heldRpcS x0.2.2.2.2.2.2.2.2.2.1 (x1 + cntT_Hard x0.2.1 + cntL cnt_Bool x0.2.2.2.1 + cntL cnt_Int x0.2.2.2.2.1 + cntL cnt_Int x0.2.2.2.2.2.1 + cntT_Keep x0.2.2.2.2.2.2.2.1 + cntT_Disk x0.2.2.2.2.2.2.2.2.1) = -1 from heldRpcS_neg c9, if_pos (by decide), heldN_neg (fun h => c9 (congrArg (fun z : Peer => z.2.2.2.2.2.2.2.2.2.1) h))]
  rw [show laws_heldRpcS x0.2.2.2.2.2.2.2.2.2.1 (x1 + cntT_Hard x0.2.1 + cntL cnt_Bool x0.2.2.2.1 + cntL cnt_Int x0.2.2.2.2.1 + cntL cnt_Int x0.2.2.2.2.2.1 + cntT_Keep x0.2.2.2.2.2.2.2.1 + cntT_Disk x0.2.2.2.2.2.2.2.2.1) = x1 + cntT_Hard x0.2.1 + cntL cnt_Bool x0.2.2.2.1 + cntL cnt_Int x0.2.2.2.2.1 + cntL cnt_Int x0.2.2.2.2.2.1 + cntT_Keep x0.2.2.2.2.2.2.2.1 + cntT_Disk x0.2.2.2.2.2.2.2.2.1 + cntL cnt_Rpc x0.2.2.2.2.2.2.2.2.2.1 from heldRpcS_pos c9, if_neg (by rw [decide_eq_true_eq]; omega)]
  rw [heldN_pos (m := mkT_Peer) (g := cntT_Peer) (Prod.ext rfl (Prod.ext c1 (Prod.ext rfl (Prod.ext c3 (Prod.ext c4 (Prod.ext c5 (Prod.ext rfl (Prod.ext c7 (Prod.ext c8 (Prod.ext c9 rfl)))))))))), show x1 + cntT_Hard x0.2.1 + cntL cnt_Bool x0.2.2.2.1 + cntL cnt_Int x0.2.2.2.2.1 + cntL cnt_Int x0.2.2.2.2.2.1 + cntT_Keep x0.2.2.2.2.2.2.2.1 + cntT_Disk x0.2.2.2.2.2.2.2.2.1 + cntL cnt_Rpc x0.2.2.2.2.2.2.2.2.2.1 = x1 + cntT_Peer x0 by simp only [cntT_Peer]; omega]
end laws_heldPeer
theorem heldPeer_pre {x : Peer} {k : Int} (h0 : 0 ≤ k) (h1 : k + cntT_Peer x ≤ 134217728) : laws_heldPeer.pre x k = true := by simp [laws_heldPeer.pre, h0, h1]
theorem held_markPeer (x : Peer) (k : Int) : laws_heldPeer (mkT_Peer x k) k = k + cntT_Peer x := held_mk mkT_Peer_keep mkT_Peer_idem x k
theorem cntT_Peer_le (x : Peer) : cntT_Peer x ≤ 32 * w_Peer x := by
  have n1 := cntT_Hard_le x.2.1
  have n3 := cntL_le cnt_Bool_le x.2.2.2.1
  have n4 := cntL_le cnt_Int_le x.2.2.2.2.1
  have n5 := cntL_le cnt_Int_le x.2.2.2.2.2.1
  have n7 := cntT_Keep_le x.2.2.2.2.2.2.2.1
  have n8 := cntT_Disk_le x.2.2.2.2.2.2.2.2.1
  have n9 := cntL_le cnt_Rpc_le x.2.2.2.2.2.2.2.2.2.1
  simp only [w_Peer, cntT_Peer]; omega
section
variable {S O : Type} {pre : S → Bool} {mu : S → Nat} {fn : S → O} {s : S}
theorem R_if {c : Prop} [Decidable c] {A B : Option (S ⊕ O)} (h : c) (r : Rounds pre mu fn s A) : Rounds pre mu fn s (if c then A else B) := by rw [if_pos h]; exact r
theorem R_else {c : Prop} [Decidable c] {A B : Option (S ⊕ O)} (h : ¬ c) (r : Rounds pre mu fn s B) : Rounds pre mu fn s (if c then A else B) := by rw [if_neg h]; exact r
theorem R_let {α : Type} {a : α} {f : α → Option (S ⊕ O)} (r : Rounds pre mu fn s (f a)) : Rounds pre mu fn s (letB a f) := r
end
section
variable {α β : Type}
theorem E_if {c : Prop} [Decidable c] {A B : Option α} {v : Option α} (h : c) (r : A = v) : (if c then A else B) = v := by rw [if_pos h]; exact r
theorem E_else {c : Prop} [Decidable c] {A B : Option α} {v : Option α} (h : ¬ c) (r : B = v) : (if c then A else B) = v := by rw [if_neg h]; exact r
theorem E_let {a : β} {f : β → Option α} {v : Option α} (r : f a = v) : letB a f = v := r
def cpPre (q : α → Bool) (xs : List α) (n i : Int) (out : List α) : Bool := small xs && (xs.all q && (decide (n = (xs.length : Int)) && (decide (0 ≤ i) && (decide (i ≤ (xs.length : Int)) && decide ((out.length : Int) ≤ i)))))
theorem cpPre_iff {q : α → Bool} {xs : List α} {n i : Int} {out : List α} : cpPre q xs n i out = true ↔ xs.length ≤ 16777216 ∧ xs.all q = true ∧ n = (xs.length : Int) ∧ 0 ≤ i ∧ i ≤ (xs.length : Int) ∧ (out.length : Int) ≤ i := by
  simp only [cpPre, Bool.and_eq_true, decide_eq_true_eq, small_iff]
theorem cp_step {q : α → Bool} {xs : List α} {n i : Int} {out : List α} (d : α) (hp : cpPre q xs n i out = true) (hlt : i < n) :
    q (xs.getD i.toNat d) = true ∧ 0 ≤ i ∧ i < (xs.length : Int) ∧ out.length + List.length (xs.getD i.toNat d :: ([] : List α)) ≤ lim ∧ IntKind.wrap .i64 (i + 1) = i + 1 ∧
      cpPre q xs n (i + 1) (out ++ [xs.getD i.toNat d]) = true ∧ (out ++ [xs.getD i.toNat d]) ++ xs.drop (i + 1).toNat = out ++ xs.drop i.toNat ∧ xs.length - (i + 1).toNat < xs.length - i.toNat := by
  obtain ⟨h1, h2, h3, h4, h5, h6⟩ := cpPre_iff.1 hp
  have hn : i.toNat < xs.length := by omega
  have e1 := List.drop_eq_getElem_cons hn
  rw [getD_get hn]
  refine ⟨List.all_eq_true.1 h2 _ (List.getElem_mem _), h4, by omega, by simp only [List.length_cons, List.length_nil, lim]; omega, w64 (by omega) (by omega), ?_, ?_, by omega⟩
  · rw [cpPre_iff]
    exact ⟨h1, h2, h3, by omega, by omega, by simp only [List.length_append, List.length_cons, List.length_nil]; omega⟩
  · rw [show (i + 1).toNat = i.toNat + 1 by omega, e1, List.append_assoc]; rfl
theorem cp_end {q : α → Bool} {xs : List α} {n i : Int} {out : List α} (hp : cpPre q xs n i out = true) (hlt : ¬ i < n) : out ++ xs.drop i.toNat = out := by
  obtain ⟨h1, h2, h3, h4, h5, h6⟩ := cpPre_iff.1 hp
  rw [List.drop_eq_nil_of_le (by omega), List.append_nil]
theorem cp_start {q : α → Bool} {xs : List α} (h : small xs = true) (ha : xs.all q = true) : cpPre q xs ((List.length xs : Nat) : Int) 0 [] = true := by
  rw [cpPre_iff]; rw [small_iff] at h
  exact ⟨h, ha, rfl, by omega, by omega, by simp⟩
theorem cp_lim {xs : List α} (h : small xs = true) : ([] : List β).length + xs.length ≤ lim := by
  rw [small_iff] at h; simp only [List.length_nil, lim]; omega
end
def impl_copyLog (x : Log) : Log := x
namespace impl_copyLog
def pre (x : Log) : Bool := small x.2.2.1
abbrev wf (x0 : Log) : Prop := wfA [(.val zk20 .f)] (x0, ())
noncomputable def raw (x0 : Log) : Option (Unit × (Log × Unit)) :=
 if (decide (List.length ([] : List Entry) + List.length x0.2.2.1 ≤ lim)) = true then
  some ((), ((x0.1, (x0.2.1, ((List.append ([] : List Entry) x0.2.2.1), x0.2.2.2))), ()))
 else
  none
theorem eq (x0 : Log) (_ : wf x0) (hp : pre x0 = true) : raw x0 = some ((), (impl_copyLog x0, ())) := by
  unfold raw
  have hp : small x0.2.2.1 = true := hp
  refine E_if (decide_eq_true (cp_lim hp)) ?_
  rfl
end impl_copyLog
def spec_l8Copy (x : Log) : Log := x
namespace spec_l8Copy
def pre (x : Log) : Bool := small x.2.2.1
abbrev wf (x0 : Log) : Prop := wfA [(.val zk20 .f)] (x0, ())
noncomputable def raw (x0 : Log) : Option (Unit × (Log × Unit)) :=
 if (decide (List.length ([] : List Entry) + List.length x0.2.2.1 ≤ lim)) = true then
  some ((), ((x0.1, (x0.2.1, ((List.append ([] : List Entry) x0.2.2.1), ()))), ()))
 else
  none
theorem eq (x0 : Log) (_ : wf x0) (hp : pre x0 = true) : raw x0 = some ((), (spec_l8Copy x0, ())) := by
  unfold raw
  have hp : small x0.2.2.1 = true := hp
  refine E_if (decide_eq_true (cp_lim hp)) ?_
  rfl
end spec_l8Copy
def impl_copyRow (x : Row) : Row := x
namespace impl_copyRow
def pre (x : Row) : Bool := small x.2.2.1
abbrev wf (x0 : Row) : Prop := wfA [(.val zk24 .f)] (x0, ())
noncomputable def raw (x0 : Row) : Option (Unit × (Row × Unit)) :=
 if (decide (List.length ([] : List Item) + List.length x0.2.2.1 ≤ lim)) = true then
  some ((), ((x0.1, (x0.2.1, ((List.append ([] : List Item) x0.2.2.1), x0.2.2.2))), ()))
 else
  none
theorem eq (x0 : Row) (_ : wf x0) (hp : pre x0 = true) : raw x0 = some ((), (impl_copyRow x0, ())) := by
  unfold raw
  have hp : small x0.2.2.1 = true := hp
  refine E_if (decide_eq_true (cp_lim hp)) ?_
  rfl
end impl_copyRow
def spec_l3Copy (x : Row) : Row := x
namespace spec_l3Copy
def pre (x : Row) : Bool := small x.2.2.1
abbrev wf (x0 : Row) : Prop := wfA [(.val zk24 .f)] (x0, ())
noncomputable def raw (x0 : Row) : Option (Unit × (Row × Unit)) :=
 if (decide (List.length ([] : List Item) + List.length x0.2.2.1 ≤ lim)) = true then
  some ((), ((x0.1, (x0.2.1, ((List.append ([] : List Item) x0.2.2.1), ()))), ()))
 else
  none
theorem eq (x0 : Row) (_ : wf x0) (hp : pre x0 = true) : raw x0 = some ((), (spec_l3Copy x0, ())) := by
  unfold raw
  have hp : small x0.2.2.1 = true := hp
  refine E_if (decide_eq_true (cp_lim hp)) ?_
  rfl
end spec_l3Copy
def impl_copyMaker (x : Maker) : Maker := x
namespace impl_copyMaker
def pre (x : Maker) : Bool := small x.2.2.2.2.1
abbrev wf (x0 : Maker) : Prop := wfA [(.val zk16 .f)] (x0, ())
noncomputable def raw (x0 : Maker) : Option (Unit × (Maker × Unit)) :=
 if (decide (List.length ([] : List Mark) + List.length x0.2.2.2.2.1 ≤ lim)) = true then
  some ((), ((x0.1, (x0.2.1, (x0.2.2.1, (x0.2.2.2.1, ((List.append ([] : List Mark) x0.2.2.2.2.1), x0.2.2.2.2.2))))), ()))
 else
  none
theorem eq (x0 : Maker) (_ : wf x0) (hp : pre x0 = true) : raw x0 = some ((), (impl_copyMaker x0, ())) := by
  unfold raw
  have hp : small x0.2.2.2.2.1 = true := hp
  refine E_if (decide_eq_true (cp_lim hp)) ?_
  rfl
end impl_copyMaker
def spec_l4Copy (x : Maker) : Maker := x
namespace spec_l4Copy
def pre (x : Maker) : Bool := small x.2.2.2.2.1
abbrev wf (x0 : Maker) : Prop := wfA [(.val zk16 .f)] (x0, ())
noncomputable def raw (x0 : Maker) : Option (Unit × (Maker × Unit)) :=
 if (decide (List.length ([] : List Mark) + List.length x0.2.2.2.2.1 ≤ lim)) = true then
  some ((), ((x0.1, (x0.2.1, (x0.2.2.1, (x0.2.2.2.1, ((List.append ([] : List Mark) x0.2.2.2.2.1), x0.2.2.2.2.2))))), ()))
 else
  none
theorem eq (x0 : Maker) (_ : wf x0) (hp : pre x0 = true) : raw x0 = some ((), (spec_l4Copy x0, ())) := by
  unfold raw
  have hp : small x0.2.2.2.2.1 = true := hp
  refine E_if (decide_eq_true (cp_lim hp)) ?_
  rfl
end spec_l4Copy
def impl_copyDisk (x : Disk) : Disk := x
namespace impl_copyDisk
def pre (x : Disk) : Bool := small x.1
abbrev wf (x0 : Disk) : Prop := wfA [(.val zk32 .f)] (x0, ())
noncomputable def raw (x0 : Disk) : Option (Unit × (Disk × Unit)) :=
 if (decide (List.length ([] : List Int) + List.length x0.1 ≤ lim)) = true then
  some ((), (((List.append ([] : List Int) x0.1), x0.2), ()))
 else
  none
theorem eq (x0 : Disk) (_ : wf x0) (hp : pre x0 = true) : raw x0 = some ((), (impl_copyDisk x0, ())) := by
  unfold raw
  have hp : small x0.1 = true := hp
  refine E_if (decide_eq_true (cp_lim hp)) ?_
  rfl
end impl_copyDisk
def spec_l10Copy (x : Disk) : Disk := x
namespace spec_l10Copy
def pre (x : Disk) : Bool := small x.1
abbrev wf (x0 : Disk) : Prop := wfA [(.val zk32 .f)] (x0, ())
noncomputable def raw (x0 : Disk) : Option (Unit × (Disk × Unit)) :=
 if (decide (List.length ([] : List Int) + List.length x0.1 ≤ lim)) = true then
  some ((), (((List.append ([] : List Int) x0.1), x0.2), ()))
 else
  none
theorem eq (x0 : Disk) (_ : wf x0) (hp : pre x0 = true) : raw x0 = some ((), (spec_l10Copy x0, ())) := by
  unfold raw
  have hp : small x0.1 = true := hp
  refine E_if (decide_eq_true (cp_lim hp)) ?_
  rfl
end spec_l10Copy
def spec_l12Rpc (x : Rpc) : Rpc := x
namespace spec_l12Rpc
def pre (x : Rpc) : Bool := small x.2.2.2.2.2.2.2.1
abbrev wf (x0 : zt3) : Prop := wfA [(.val zk10 .f)] (x0, ())
noncomputable def raw (x0 : zt3) : Option (Unit × (zt3 × Unit)) :=
 if (decide (List.length ([] : List Entry) + List.length x0.2.2.2.2.2.2.2.1 ≤ lim)) = true then
  some ((), ((x0.1, (x0.2.1, (x0.2.2.1, (x0.2.2.2.1, (x0.2.2.2.2.1, (x0.2.2.2.2.2.1, (x0.2.2.2.2.2.2.1, ((List.append ([] : List Entry) x0.2.2.2.2.2.2.2.1), x0.2.2.2.2.2.2.2.2)))))))), ()))
 else
  none
theorem eq (x0 : Rpc) (_ : wf x0) (hp : pre x0 = true) : raw x0 = some ((), (spec_l12Rpc x0, ())) := by
  unfold raw
  have hp : small x0.2.2.2.2.2.2.2.1 = true := hp
  refine E_if (decide_eq_true (cp_lim hp)) ?_
  rfl
end spec_l12Rpc
def impl_copyInts (x : List Int) : List Int := x
namespace impl_copyInts
def pre (x : List Int) : Bool := small x
abbrev wf (x0 : (List Int)) : Prop := wfA [(.val (.sl 0 (.int .i64)) .f)] (x0, ())
noncomputable def raw (x0 : (List Int)) : Option (Unit × zt31) :=
 if (decide (List.length ([] : List Int) + List.length x0 ≤ lim)) = true then
  some ((), ((List.append ([] : List Int) x0), ()))
 else
  none
theorem eq (x0 : List Int) (_ : wf x0) (hp : pre x0 = true) : raw x0 = some ((), (impl_copyInts x0, ())) := by
  unfold raw
  refine E_if (decide_eq_true (cp_lim hp)) ?_
  rfl
end impl_copyInts
def groupS (x : Group) : Bool := small x.2.1 && (small x.2.2.1 && small x.2.2.2.1)
def impl_copyGroup (x : Group) : Group := x
namespace impl_copyGroup
def pre (x : Group) : Bool := groupS x
abbrev wf (x0 : Group) : Prop := wfA [(.val zk19 .f)] (x0, ())
noncomputable def raw (x0 : Group) : Option (Unit × (Group × Unit)) :=
 if (impl_copyInts.pre x0.2.1) = true then
  if (impl_copyInts.pre x0.2.2.1) = true then
   if (impl_copyInts.pre x0.2.2.2.1) = true then
    letB (impl_copyInts x0.2.1) fun v1 =>
    letB (impl_copyInts x0.2.2.1) fun v2 =>
    letB (impl_copyInts x0.2.2.2.1) fun v3 =>
    some ((), ((x0.1, (v1, (v2, (v3, x0.2.2.2.2)))), ()))
   else
    none
  else
   none
 else
  none
theorem eq (x0 : Group) (_ : wf x0) (hp : pre x0 = true) : raw x0 = some ((), (impl_copyGroup x0, ())) := by
  simp only [pre, groupS, Bool.and_eq_true] at hp
  unfold raw
  refine E_if hp.1 (E_if hp.2.1 (E_if hp.2.2 ?_))
  rfl
end impl_copyGroup
def spec_l5Copy (x : Group) : Group := x
namespace spec_l5Copy
def pre (x : Group) : Bool := groupS x
abbrev wf (x0 : Group) : Prop := wfA [(.val zk19 .f)] (x0, ())
noncomputable def raw (x0 : Group) : Option (Unit × (Group × Unit)) :=
 if (decide (List.length ([] : List Int) + List.length x0.2.1 ≤ lim)) = true then
  if (decide (List.length ([] : List Int) + List.length x0.2.2.1 ≤ lim)) = true then
   if (decide (List.length ([] : List Int) + List.length x0.2.2.2.1 ≤ lim)) = true then
    some ((), ((x0.1, ((List.append ([] : List Int) x0.2.1), ((List.append ([] : List Int) x0.2.2.1), ((List.append ([] : List Int) x0.2.2.2.1), ())))), ()))
   else
    none
  else
   none
 else
  none
theorem eq (x0 : Group) (_ : wf x0) (hp : pre x0 = true) : raw x0 = some ((), (spec_l5Copy x0, ())) := by
  simp only [pre, groupS, Bool.and_eq_true] at hp
  unfold raw
  refine E_if (decide_eq_true (cp_lim hp.1)) (E_if (decide_eq_true (cp_lim hp.2.1)) (E_if (decide_eq_true (cp_lim hp.2.2)) ?_))
  rfl
end spec_l5Copy
def impl_copyMakers (x : List Maker) : List Maker := x
namespace impl_copyMakers
abbrev S3 : Type := ((List Maker) × (Int × (Int × zt33)))
abbrev O3 : Type := zt33
def pre (x : List Maker) : Bool := small x && x.all impl_copyMaker.pre
def pre3 : S3 → Bool := fun (x1, x2, x3, x4, _) => cpPre impl_copyMaker.pre x1 x2 x3 x4
def fn3 : S3 → O3 := fun (x1, _, x3, x4, _) => (x4 ++ x1.drop x3.toNat, ())
def mu3 : S3 → Nat := fun (x1, _, x3, _, _) => x1.length - x3.toNat
noncomputable def raw3 (x1 : (List Maker)) (x2 : Int) (x3 : Int) (x4 : (List Maker)) : Option (((List Maker) × (Int × (Int × zt33))) ⊕ zt33) :=
 if (decide (x3 < x2)) = true then
  if (decide ((0 : Int) ≤ x3)) = true then
   if (decide (x3 < ((List.length x1 : Nat) : Int))) = true then
    if (impl_copyMaker.pre (List.getD x1 (Int.toNat x3) zd11)) = true then
     letB (impl_copyMaker (List.getD x1 (Int.toNat x3) zd11)) fun v1 =>
     if (decide (List.length x4 + List.length (v1 :: ([] : List Maker)) ≤ lim)) = true then
      some (.inl (x1, (x2, ((IntKind.wrap .i64 (x3 + (1 : Int))), ((List.append x4 (v1 :: ([] : List Maker))), ())))))
     else
      none
    else
     none
   else
    none
  else
   none
 else
  some (.inr (x4, ()))
abbrev wf (x0 : (List Maker)) : Prop := wfA [(.val (.sl 0 zk16) .f)] (x0, ())
noncomputable def raw (x0 : (List Maker)) : Option (Unit × zt33) :=
 if (impl_copyMakers.pre3 (x0, (((List.length x0 : Nat) : Int), ((0 : Int), (([] : List Maker), ()))))) = true then
  letB (impl_copyMakers.fn3 (x0, (((List.length x0 : Nat) : Int), ((0 : Int), (([] : List Maker), ()))))) fun v1 =>
  some ((), v1)
 else
  none
theorem ok3 (x1 x2 x3 x4) (hp : pre3 (x1, (x2, (x3, (x4, ())))) = true) : Rounds pre3 mu3 fn3 (x1, (x2, (x3, (x4, ())))) (raw3 x1 x2 x3 x4) := by
  have hp : cpPre impl_copyMaker.pre x1 x2 x3 x4 = true := hp
  unfold raw3
  by_cases hlt : x3 < x2
  · obtain ⟨hq, h0, h1, h2, h3, h4, h5, h6⟩ := cp_step zd11 hp hlt
    rw [h3]
    refine R_if (decide_eq_true hlt) ?_
    refine R_if (decide_eq_true h0) ?_
    refine R_if (decide_eq_true h1) ?_
    refine R_if hq ?_
    refine R_let ?_
    refine R_if (decide_eq_true h2) ?_
    exact ⟨h4, h6, congrArg (fun z : List Maker => ((z, ()) : O3)) h5⟩
  · refine R_else (by rw [decide_eq_true_eq]; exact hlt) ?_
    show _ = _
    exact congrArg (fun z : List Maker => ((z, ()) : O3)) (cp_end hp hlt).symm
theorem eq (x0 : List Maker) (_ : wf x0) (hp : pre x0 = true) : raw x0 = some ((), (impl_copyMakers x0, ())) := by
  simp only [pre, Bool.and_eq_true] at hp
  unfold raw
  exact E_if (show pre3 _ = true from cp_start hp.1 hp.2) rfl
end impl_copyMakers
def impl_copyKeep (x : Keep) : Keep := x
namespace impl_copyKeep
abbrev S4 : Type := ((List Group) × ((List Row) × (Int × (Int × zt18))))
abbrev O4 : Type := ((List Group) × zt18)
abbrev S9 : Type := ((List Group) × (Int × (Int × zt18)))
abbrev O9 : Type := zt18
def pre (x : Keep) : Bool := small x.1 && (x.1.all impl_copyRow.pre && (small x.2.1 && (x.2.1.all impl_copyMaker.pre && (small x.2.2.1 && (x.2.2.1.all impl_copyGroup.pre && (small x.2.2.2.2.1 && small x.2.2.2.2.2.1))))))
def pre4 : S4 → Bool := fun (_, x2, x3, x4, _, _, x7, _, _, _, _, _, _, _, _, _) => cpPre impl_copyRow.pre x2 x3 x4 x7
def fn4 : S4 → O4 := fun (x1, x2, _, x4, x5, x6, x7, x8, x9, x10, x11, x12, x13, x14, x15, _) => (x1, (x5, (x6, (x7 ++ x2.drop x4.toNat, (x8, (x9, (x10, (x11, (x12, (x13, (x14, (x15, ()))))))))))))
def mu4 : S4 → Nat := fun (_, x2, _, x4, _, _, _, _, _, _, _, _, _, _, _, _) => x2.length - x4.toNat
def pre9 : S9 → Bool := fun (x1, x2, x3, _, _, _, x7, _, _, _, _, _, _, _, _) => cpPre impl_copyGroup.pre x1 x2 x3 x7
def fn9 : S9 → O9 := fun (x1, _, x3, x4, x5, x6, x7, x8, x9, x10, x11, x12, x13, x14, _) => (x4, (x5, (x6, (x7 ++ x1.drop x3.toNat, (x8, (x9, (x10, (x11, (x12, (x13, (x14, ())))))))))))
def mu9 : S9 → Nat := fun (x1, _, x3, _, _, _, _, _, _, _, _, _, _, _, _) => x1.length - x3.toNat
noncomputable def raw4 (x1 : (List Group)) (x2 : (List Row)) (x3 : Int) (x4 : Int) (x5 : (List Maker)) (x6 : (Int × ((List Int) × ((List Answer) × Unit)))) (x7 : (List Row)) (x8 : (List Group)) (x9 : Int) (x10 : Unit) (x11 : (List Row)) (x12 : (List Maker)) (x13 : (List Group)) (x14 : (List Int)) (x15 : (List Answer)) : Option (((List Group) × ((List Row) × (Int × (Int × zt18)))) ⊕ ((List Group) × zt18)) :=
 if (decide (x4 < x3)) = true then
  if (decide ((0 : Int) ≤ x4)) = true then
   if (decide (x4 < ((List.length x2 : Nat) : Int))) = true then
    if (impl_copyRow.pre (List.getD x2 (Int.toNat x4) zd17)) = true then
     letB (impl_copyRow (List.getD x2 (Int.toNat x4) zd17)) fun v1 =>
     if (decide (List.length x7 + List.length (v1 :: ([] : List Row)) ≤ lim)) = true then
      some (.inl (x1, (x2, (x3, ((IntKind.wrap .i64 (x4 + (1 : Int))), (x5, (x6, ((List.append x7 (v1 :: ([] : List Row))), (x8, (x9, (x10, (x11, (x12, (x13, (x14, (x15, ()))))))))))))))))
     else
      none
    else
     none
   else
    none
  else
   none
 else
  some (.inr (x1, (x5, (x6, (x7, (x8, (x9, (x10, (x11, (x12, (x13, (x14, (x15, ())))))))))))))
noncomputable def raw9 (x1 : (List Group)) (x2 : Int) (x3 : Int) (x4 : (List Maker)) (x5 : (Int × ((List Int) × ((List Answer) × Unit)))) (x6 : (List Row)) (x7 : (List Group)) (x8 : Int) (x9 : Unit) (x10 : (List Row)) (x11 : (List Maker)) (x12 : (List Group)) (x13 : (List Int)) (x14 : (List Answer)) : Option (((List Group) × (Int × (Int × zt18))) ⊕ zt18) :=
 if (decide (x3 < x2)) = true then
  if (decide ((0 : Int) ≤ x3)) = true then
   if (decide (x3 < ((List.length x1 : Nat) : Int))) = true then
    if (impl_copyGroup.pre (List.getD x1 (Int.toNat x3) zd9)) = true then
     letB (impl_copyGroup (List.getD x1 (Int.toNat x3) zd9)) fun v1 =>
     if (decide (List.length x7 + List.length (v1 :: ([] : List Group)) ≤ lim)) = true then
      some (.inl (x1, (x2, ((IntKind.wrap .i64 (x3 + (1 : Int))), (x4, (x5, (x6, ((List.append x7 (v1 :: ([] : List Group))), (x8, (x9, (x10, (x11, (x12, (x13, (x14, ())))))))))))))))
     else
      none
    else
     none
   else
    none
  else
   none
 else
  some (.inr (x4, (x5, (x6, (x7, (x8, (x9, (x10, (x11, (x12, (x13, (x14, ()))))))))))))
abbrev wf (x0 : zt7) : Prop := wfA [(.val zk4 .f)] (x0, ())
noncomputable def raw (x0 : zt7) : Option (Unit × (zt7 × Unit)) :=
 if (impl_copyKeep.pre4 (x0.2.2.1, (x0.1, (((List.length x0.1 : Nat) : Int), ((0 : Int), (x0.2.1, (x0.2.2.2, (([] : List Row), (([] : List Group), ((0 : Int), ((), (([] : List Row), (([] : List Maker), (([] : List Group), (([] : List Int), (([] : List Answer), ())))))))))))))))) = true then
  letB (impl_copyKeep.fn4 (x0.2.2.1, (x0.1, (((List.length x0.1 : Nat) : Int), ((0 : Int), (x0.2.1, (x0.2.2.2, (([] : List Row), (([] : List Group), ((0 : Int), ((), (([] : List Row), (([] : List Maker), (([] : List Group), (([] : List Int), (([] : List Answer), ())))))))))))))))) fun v1 =>
  if (impl_copyKeep.pre9 (v1.1, (((List.length v1.1 : Nat) : Int), ((0 : Int), v1.2)))) = true then
   letB (impl_copyKeep.fn9 (v1.1, (((List.length v1.1 : Nat) : Int), ((0 : Int), v1.2)))) fun v2 =>
   if (impl_copyMakers.pre v2.1) = true then
    if (impl_copyInts.pre v2.2.1.2.1) = true then
     if (decide (List.length ([] : List Answer) + List.length v2.2.1.2.2.1 ≤ lim)) = true then
      letB (impl_copyMakers v2.1) fun v3 =>
      letB (impl_copyInts v2.2.1.2.1) fun v4 =>
      some ((), ((v2.2.2.1, (v3, (v2.2.2.2.1, (v2.2.1.1, (v4, ((List.append ([] : List Answer) v2.2.1.2.2.1), v2.2.1.2.2.2)))))), ()))
     else
      none
    else
     none
   else
    none
  else
   none
 else
  none
theorem ok4 (x1 x2 x3 x4 x5 x6 x7 x8 x9 x10 x11 x12 x13 x14 x15) (hp : pre4 (x1, (x2, (x3, (x4, (x5, (x6, (x7, (x8, (x9, (x10, (x11, (x12, (x13, (x14, (x15, ()))))))))))))))) = true) : Rounds pre4 mu4 fn4 (x1, (x2, (x3, (x4, (x5, (x6, (x7, (x8, (x9, (x10, (x11, (x12, (x13, (x14, (x15, ()))))))))))))))) (raw4 x1 x2 x3 x4 x5 x6 x7 x8 x9 x10 x11 x12 x13 x14 x15) := by
  have hp : cpPre impl_copyRow.pre x2 x3 x4 x7 = true := hp
  unfold raw4
  by_cases hlt : x4 < x3
  · obtain ⟨hq, h0, h1, h2, h3, h4, h5, h6⟩ := cp_step zd17 hp hlt
    rw [h3]
    refine R_if (decide_eq_true hlt) ?_
    refine R_if (decide_eq_true h0) ?_
    refine R_if (decide_eq_true h1) ?_
    refine R_if hq ?_
    refine R_let ?_
    refine R_if (decide_eq_true h2) ?_
    exact ⟨h4, h6, congrArg (fun z : List Row => ((x1, (x5, (x6, (z, (x8, (x9, (x10, (x11, (x12, (x13, (x14, (x15, ())))))))))))) : O4)) h5⟩
  · refine R_else (by rw [decide_eq_true_eq]; exact hlt) ?_
    show _ = _
    exact congrArg (fun z : List Row => ((x1, (x5, (x6, (z, (x8, (x9, (x10, (x11, (x12, (x13, (x14, (x15, ())))))))))))) : O4)) (cp_end hp hlt).symm
theorem ok9 (x1 x2 x3 x4 x5 x6 x7 x8 x9 x10 x11 x12 x13 x14) (hp : pre9 (x1, (x2, (x3, (x4, (x5, (x6, (x7, (x8, (x9, (x10, (x11, (x12, (x13, (x14, ())))))))))))))) = true) : Rounds pre9 mu9 fn9 (x1, (x2, (x3, (x4, (x5, (x6, (x7, (x8, (x9, (x10, (x11, (x12, (x13, (x14, ())))))))))))))) (raw9 x1 x2 x3 x4 x5 x6 x7 x8 x9 x10 x11 x12 x13 x14) := by
  have hp : cpPre impl_copyGroup.pre x1 x2 x3 x7 = true := hp
  unfold raw9
  by_cases hlt : x3 < x2
  · obtain ⟨hq, h0, h1, h2, h3, h4, h5, h6⟩ := cp_step zd9 hp hlt
    rw [h3]
    refine R_if (decide_eq_true hlt) ?_
    refine R_if (decide_eq_true h0) ?_
    refine R_if (decide_eq_true h1) ?_
    refine R_if hq ?_
    refine R_let ?_
    refine R_if (decide_eq_true h2) ?_
    exact ⟨h4, h6, congrArg (fun z : List Group => ((x4, (x5, (x6, (z, (x8, (x9, (x10, (x11, (x12, (x13, (x14, ()))))))))))) : O9)) h5⟩
  · refine R_else (by rw [decide_eq_true_eq]; exact hlt) ?_
    show _ = _
    exact congrArg (fun z : List Group => ((x4, (x5, (x6, (z, (x8, (x9, (x10, (x11, (x12, (x13, (x14, ()))))))))))) : O9)) (cp_end hp hlt).symm
theorem eq (x0 : Keep) (_ : wf x0) (hp : pre x0 = true) : raw x0 = some ((), (impl_copyKeep x0, ())) := by
  simp only [pre, Bool.and_eq_true] at hp
  obtain ⟨a1, a2, a3, a4, a5, a6, a7, a8⟩ := hp
  unfold raw
  refine E_if (show pre4 _ = true from cp_start a1 a2) (E_let ?_)
  refine E_if (show pre9 _ = true from cp_start a5 a6) (E_let ?_)
  refine E_if (show impl_copyMakers.pre x0.2.1 = true by rw [impl_copyMakers.pre, a3, a4]; rfl) ?_
  refine E_if (show impl_copyInts.pre x0.2.2.2.2.1 = true from a7) ?_
  exact E_if (decide_eq_true (cp_lim a8)) rfl
end impl_copyKeep
def spec_l6Copy (x : Keep) : Keep := x
namespace spec_l6Copy
abbrev S3 : Type := (Int × (zt7 × zt13))
abbrev O3 : Type := (zt7 × zt13)
abbrev S7 : Type := (Int × (zt7 × zt13))
abbrev O7 : Type := (zt7 × zt13)
abbrev S11 : Type := (Int × (zt7 × zt13))
abbrev O11 : Type := zt13
def pre (x : Keep) : Bool := small x.1 && (x.1.all spec_l3Copy.pre && (small x.2.1 && (x.2.1.all spec_l4Copy.pre && (small x.2.2.1 && (x.2.2.1.all spec_l5Copy.pre && (small x.2.2.2.2.1 && small x.2.2.2.2.2.1))))))
def pre3 : S3 → Bool := fun (x1, x2, _, _, _, _, _, _, _, _, _, x12, _, _, _, _, _) => cpPre spec_l3Copy.pre x2.1 ((List.length x2.1 : Nat) : Int) x1 x12
def fn3 : S3 → O3 := fun (x1, x2, x3, x4, x5, x6, x7, x8, x9, x10, x11, x12, x13, x14, x15, x16, _) => (x2, (x3, (x4, (x5, (x6, (x7, (x8, (x9, (x10, (x11, (x12 ++ x2.1.drop x1.toNat, (x13, (x14, (x15, (x16, ())))))))))))))))
def mu3 : S3 → Nat := fun (x1, x2, _, _, _, _, _, _, _, _, _, _, _, _, _, _, _) => x2.1.length - x1.toNat
def pre7 : S7 → Bool := fun (x1, x2, _, _, _, _, _, _, _, _, _, _, x13, _, _, _, _) => cpPre spec_l4Copy.pre x2.2.1 ((List.length x2.2.1 : Nat) : Int) x1 x13
def fn7 : S7 → O7 := fun (x1, x2, x3, x4, x5, x6, x7, x8, x9, x10, x11, x12, x13, x14, x15, x16, _) => (x2, (x3, (x4, (x5, (x6, (x7, (x8, (x9, (x10, (x11, (x12, (x13 ++ x2.2.1.drop x1.toNat, (x14, (x15, (x16, ())))))))))))))))
def mu7 : S7 → Nat := fun (x1, x2, _, _, _, _, _, _, _, _, _, _, _, _, _, _, _) => x2.2.1.length - x1.toNat
def pre11 : S11 → Bool := fun (x1, x2, _, _, _, _, _, _, _, _, _, _, _, x14, _, _, _) => cpPre spec_l5Copy.pre x2.2.2.1 ((List.length x2.2.2.1 : Nat) : Int) x1 x14
def fn11 : S11 → O11 := fun (x1, x2, x3, x4, x5, x6, x7, x8, x9, x10, x11, x12, x13, x14, x15, x16, _) => (x3, (x4, (x5, (x6, (x7, (x8, (x9, (x10, (x11, (x12, (x13, (x14 ++ x2.2.2.1.drop x1.toNat, (x15, (x16, ()))))))))))))))
def mu11 : S11 → Nat := fun (x1, x2, _, _, _, _, _, _, _, _, _, _, _, _, _, _, _) => x2.2.2.1.length - x1.toNat
noncomputable def raw3 (x1 : Int) (x2 : zt7) (x3 : Int) (x4 : Unit) (x5 : (List Row)) (x6 : (List Maker)) (x7 : (List Group)) (x8 : (List Int)) (x9 : (List Answer)) (x10 : Int) (x11 : Unit) (x12 : (List Row)) (x13 : (List Maker)) (x14 : (List Group)) (x15 : (List Int)) (x16 : (List Answer)) : Option ((Int × (zt7 × zt13)) ⊕ (zt7 × zt13)) :=
 if (decide (x1 < ((List.length x2.1 : Nat) : Int))) = true then
  if (decide ((0 : Int) ≤ x1)) = true then
   if (decide (x1 < ((List.length x2.1 : Nat) : Int))) = true then
    if (spec_l3Copy.pre (List.getD x2.1 (Int.toNat x1) zd17)) = true then
     letB (spec_l3Copy (List.getD x2.1 (Int.toNat x1) zd17)) fun v1 =>
     if (decide (List.length x12 + List.length (v1 :: ([] : List Row)) ≤ lim)) = true then
      some (.inl ((IntKind.wrap .i64 (x1 + (1 : Int))), (x2, (x3, (x4, (x5, (x6, (x7, (x8, (x9, (x10, (x11, ((List.append x12 (v1 :: ([] : List Row))), (x13, (x14, (x15, (x16, ())))))))))))))))))
     else
      none
    else
     none
   else
    none
  else
   none
 else
  some (.inr (x2, (x3, (x4, (x5, (x6, (x7, (x8, (x9, (x10, (x11, (x12, (x13, (x14, (x15, (x16, ()))))))))))))))))
noncomputable def raw7 (x1 : Int) (x2 : zt7) (x3 : Int) (x4 : Unit) (x5 : (List Row)) (x6 : (List Maker)) (x7 : (List Group)) (x8 : (List Int)) (x9 : (List Answer)) (x10 : Int) (x11 : Unit) (x12 : (List Row)) (x13 : (List Maker)) (x14 : (List Group)) (x15 : (List Int)) (x16 : (List Answer)) : Option ((Int × (zt7 × zt13)) ⊕ (zt7 × zt13)) :=
 if (decide (x1 < ((List.length x2.2.1 : Nat) : Int))) = true then
  if (decide ((0 : Int) ≤ x1)) = true then
   if (decide (x1 < ((List.length x2.2.1 : Nat) : Int))) = true then
    if (spec_l4Copy.pre (List.getD x2.2.1 (Int.toNat x1) zd11)) = true then
     letB (spec_l4Copy (List.getD x2.2.1 (Int.toNat x1) zd11)) fun v1 =>
     if (decide (List.length x13 + List.length (v1 :: ([] : List Maker)) ≤ lim)) = true then
      some (.inl ((IntKind.wrap .i64 (x1 + (1 : Int))), (x2, (x3, (x4, (x5, (x6, (x7, (x8, (x9, (x10, (x11, (x12, ((List.append x13 (v1 :: ([] : List Maker))), (x14, (x15, (x16, ())))))))))))))))))
     else
      none
    else
     none
   else
    none
  else
   none
 else
  some (.inr (x2, (x3, (x4, (x5, (x6, (x7, (x8, (x9, (x10, (x11, (x12, (x13, (x14, (x15, (x16, ()))))))))))))))))
noncomputable def raw11 (x1 : Int) (x2 : zt7) (x3 : Int) (x4 : Unit) (x5 : (List Row)) (x6 : (List Maker)) (x7 : (List Group)) (x8 : (List Int)) (x9 : (List Answer)) (x10 : Int) (x11 : Unit) (x12 : (List Row)) (x13 : (List Maker)) (x14 : (List Group)) (x15 : (List Int)) (x16 : (List Answer)) : Option ((Int × (zt7 × zt13)) ⊕ zt13) :=
 if (decide (x1 < ((List.length x2.2.2.1 : Nat) : Int))) = true then
  if (decide ((0 : Int) ≤ x1)) = true then
   if (decide (x1 < ((List.length x2.2.2.1 : Nat) : Int))) = true then
    if (spec_l5Copy.pre (List.getD x2.2.2.1 (Int.toNat x1) zd9)) = true then
     letB (spec_l5Copy (List.getD x2.2.2.1 (Int.toNat x1) zd9)) fun v1 =>
     if (decide (List.length x14 + List.length (v1 :: ([] : List Group)) ≤ lim)) = true then
      some (.inl ((IntKind.wrap .i64 (x1 + (1 : Int))), (x2, (x3, (x4, (x5, (x6, (x7, (x8, (x9, (x10, (x11, (x12, (x13, ((List.append x14 (v1 :: ([] : List Group))), (x15, (x16, ())))))))))))))))))
     else
      none
    else
     none
   else
    none
  else
   none
 else
  some (.inr (x3, (x4, (x5, (x6, (x7, (x8, (x9, (x10, (x11, (x12, (x13, (x14, (x15, (x16, ())))))))))))))))
abbrev wf (x0 : zt7) : Prop := wfA [(.val zk4 .f)] (x0, ())
noncomputable def raw (x0 : zt7) : Option (Unit × (zt7 × Unit)) :=
 if (decide (List.length ([] : List Int) + List.length x0.2.2.2.2.1 ≤ lim)) = true then
  if (decide (List.length ([] : List Answer) + List.length x0.2.2.2.2.2.1 ≤ lim)) = true then
   if (spec_l6Copy.pre3 ((0 : Int), (x0, ((0 : Int), ((), (([] : List Row), (([] : List Maker), (([] : List Group), (([] : List Int), (([] : List Answer), (x0.2.2.2.1, ((), (([] : List Row), (([] : List Maker), (([] : List Group), ((List.append ([] : List Int) x0.2.2.2.2.1), ((List.append ([] : List Answer) x0.2.2.2.2.2.1), ()))))))))))))))))) = true then
    letB (spec_l6Copy.fn3 ((0 : Int), (x0, ((0 : Int), ((), (([] : List Row), (([] : List Maker), (([] : List Group), (([] : List Int), (([] : List Answer), (x0.2.2.2.1, ((), (([] : List Row), (([] : List Maker), (([] : List Group), ((List.append ([] : List Int) x0.2.2.2.2.1), ((List.append ([] : List Answer) x0.2.2.2.2.2.1), ()))))))))))))))))) fun v1 =>
    if (spec_l6Copy.pre7 ((0 : Int), v1)) = true then
     letB (spec_l6Copy.fn7 ((0 : Int), v1)) fun v2 =>
     if (spec_l6Copy.pre11 ((0 : Int), v2)) = true then
      letB (spec_l6Copy.fn11 ((0 : Int), v2)) fun v3 =>
      some ((), ((v3.2.2.2.2.2.2.2.2.2.1, (v3.2.2.2.2.2.2.2.2.2.2.1, (v3.2.2.2.2.2.2.2.2.2.2.2.1, (v3.2.2.2.2.2.2.2.1, (v3.2.2.2.2.2.2.2.2.2.2.2.2.1, (v3.2.2.2.2.2.2.2.2.2.2.2.2.2.1, v3.2.2.2.2.2.2.2.2.1)))))), ()))
     else
      none
    else
     none
   else
    none
  else
   none
 else
  none
theorem ok3 (x1 x2 x3 x4 x5 x6 x7 x8 x9 x10 x11 x12 x13 x14 x15 x16) (hp : pre3 (x1, (x2, (x3, (x4, (x5, (x6, (x7, (x8, (x9, (x10, (x11, (x12, (x13, (x14, (x15, (x16, ())))))))))))))))) = true) : Rounds pre3 mu3 fn3 (x1, (x2, (x3, (x4, (x5, (x6, (x7, (x8, (x9, (x10, (x11, (x12, (x13, (x14, (x15, (x16, ())))))))))))))))) (raw3 x1 x2 x3 x4 x5 x6 x7 x8 x9 x10 x11 x12 x13 x14 x15 x16) := by
  have hp : cpPre spec_l3Copy.pre x2.1 ((List.length x2.1 : Nat) : Int) x1 x12 = true := hp
  unfold raw3
  by_cases hlt : x1 < ((List.length x2.1 : Nat) : Int)
  · obtain ⟨hq, h0, h1, h2, h3, h4, h5, h6⟩ := cp_step zd17 hp hlt
    rw [h3]
    refine R_if (decide_eq_true hlt) ?_
    refine R_if (decide_eq_true h0) ?_
    refine R_if (decide_eq_true h1) ?_
    refine R_if hq ?_
    refine R_let ?_
    refine R_if (decide_eq_true h2) ?_
    exact ⟨h4, h6, congrArg (fun z : List Row => ((x2, (x3, (x4, (x5, (x6, (x7, (x8, (x9, (x10, (x11, (z, (x13, (x14, (x15, (x16, ()))))))))))))))) : O3)) h5⟩
  · refine R_else (by rw [decide_eq_true_eq]; exact hlt) ?_
    show _ = _
    exact congrArg (fun z : List Row => ((x2, (x3, (x4, (x5, (x6, (x7, (x8, (x9, (x10, (x11, (z, (x13, (x14, (x15, (x16, ()))))))))))))))) : O3)) (cp_end hp hlt).symm
theorem ok7 (x1 x2 x3 x4 x5 x6 x7 x8 x9 x10 x11 x12 x13 x14 x15 x16) (hp : pre7 (x1, (x2, (x3, (x4, (x5, (x6, (x7, (x8, (x9, (x10, (x11, (x12, (x13, (x14, (x15, (x16, ())))))))))))))))) = true) : Rounds pre7 mu7 fn7 (x1, (x2, (x3, (x4, (x5, (x6, (x7, (x8, (x9, (x10, (x11, (x12, (x13, (x14, (x15, (x16, ())))))))))))))))) (raw7 x1 x2 x3 x4 x5 x6 x7 x8 x9 x10 x11 x12 x13 x14 x15 x16) := by
  have hp : cpPre spec_l4Copy.pre x2.2.1 ((List.length x2.2.1 : Nat) : Int) x1 x13 = true := hp
  unfold raw7
  by_cases hlt : x1 < ((List.length x2.2.1 : Nat) : Int)
  · obtain ⟨hq, h0, h1, h2, h3, h4, h5, h6⟩ := cp_step zd11 hp hlt
    rw [h3]
    refine R_if (decide_eq_true hlt) ?_
    refine R_if (decide_eq_true h0) ?_
    refine R_if (decide_eq_true h1) ?_
    refine R_if hq ?_
    refine R_let ?_
    refine R_if (decide_eq_true h2) ?_
    exact ⟨h4, h6, congrArg (fun z : List Maker => ((x2, (x3, (x4, (x5, (x6, (x7, (x8, (x9, (x10, (x11, (x12, (z, (x14, (x15, (x16, ()))))))))))))))) : O7)) h5⟩
  · refine R_else (by rw [decide_eq_true_eq]; exact hlt) ?_
    show _ = _
    exact congrArg (fun z : List Maker => ((x2, (x3, (x4, (x5, (x6, (x7, (x8, (x9, (x10, (x11, (x12, (z, (x14, (x15, (x16, ()))))))))))))))) : O7)) (cp_end hp hlt).symm
theorem ok11 (x1 x2 x3 x4 x5 x6 x7 x8 x9 x10 x11 x12 x13 x14 x15 x16) (hp : pre11 (x1, (x2, (x3, (x4, (x5, (x6, (x7, (x8, (x9, (x10, (x11, (x12, (x13, (x14, (x15, (x16, ())))))))))))))))) = true) : Rounds pre11 mu11 fn11 (x1, (x2, (x3, (x4, (x5, (x6, (x7, (x8, (x9, (x10, (x11, (x12, (x13, (x14, (x15, (x16, ())))))))))))))))) (raw11 x1 x2 x3 x4 x5 x6 x7 x8 x9 x10 x11 x12 x13 x14 x15 x16) := by
  have hp : cpPre spec_l5Copy.pre x2.2.2.1 ((List.length x2.2.2.1 : Nat) : Int) x1 x14 = true := hp
  unfold raw11
  by_cases hlt : x1 < ((List.length x2.2.2.1 : Nat) : Int)
  · obtain ⟨hq, h0, h1, h2, h3, h4, h5, h6⟩ := cp_step zd9 hp hlt
    rw [h3]
    refine R_if (decide_eq_true hlt) ?_
    refine R_if (decide_eq_true h0) ?_
    refine R_if (decide_eq_true h1) ?_
    refine R_if hq ?_
    refine R_let ?_
    refine R_if (decide_eq_true h2) ?_
    exact ⟨h4, h6, congrArg (fun z : List Group => ((x3, (x4, (x5, (x6, (x7, (x8, (x9, (x10, (x11, (x12, (x13, (z, (x15, (x16, ())))))))))))))) : O11)) h5⟩
  · refine R_else (by rw [decide_eq_true_eq]; exact hlt) ?_
    show _ = _
    exact congrArg (fun z : List Group => ((x3, (x4, (x5, (x6, (x7, (x8, (x9, (x10, (x11, (x12, (x13, (z, (x15, (x16, ())))))))))))))) : O11)) (cp_end hp hlt).symm
theorem eq (x0 : Keep) (_ : wf x0) (hp : pre x0 = true) : raw x0 = some ((), (spec_l6Copy x0, ())) := by
  simp only [pre, Bool.and_eq_true] at hp
  obtain ⟨a1, a2, a3, a4, a5, a6, a7, a8⟩ := hp
  unfold raw
  refine E_if (decide_eq_true (cp_lim a7)) (E_if (decide_eq_true (cp_lim a8)) ?_)
  refine E_if (show pre3 _ = true from cp_start a1 a2) (E_let ?_)
  refine E_if (show pre7 _ = true from cp_start a3 a4) (E_let ?_)
  exact E_if (show pre11 _ = true from cp_start a5 a6) (E_let rfl)
end spec_l6Copy
def rpcS (x : Rpc) : Bool := small x.2.2.2.2.2.2.2.1
def impl_copyRpcs (x : List Rpc) : List Rpc := x
namespace impl_copyRpcs
abbrev S3 : Type := ((List zt3) × (Int × (Int × zt29)))
abbrev O3 : Type := zt29
def pre (x : List Rpc) : Bool := small x && x.all rpcS
def pre3 : S3 → Bool := fun (x1, x2, x3, x4, _) => cpPre rpcS x1 x2 x3 x4
def fn3 : S3 → O3 := fun (x1, _, x3, x4, _) => (x4 ++ x1.drop x3.toNat, ())
def mu3 : S3 → Nat := fun (x1, _, x3, _, _) => x1.length - x3.toNat
noncomputable def raw3 (x1 : (List zt3)) (x2 : Int) (x3 : Int) (x4 : (List zt3)) : Option (((List zt3) × (Int × (Int × zt29))) ⊕ zt29) :=
 if (decide (x3 < x2)) = true then
  if (decide ((0 : Int) ≤ x3)) = true then
   if (decide (x3 < ((List.length x1 : Nat) : Int))) = true then
    if (decide (List.length ([] : List Entry) + List.length (List.getD x1 (Int.toNat x3) zd5).2.2.2.2.2.2.2.1 ≤ lim)) = true then
     if (decide (List.length x4 + List.length (((List.getD x1 (Int.toNat x3) zd5).1, ((List.getD x1 (Int.toNat x3) zd5).2.1, ((List.getD x1 (Int.toNat x3) zd5).2.2.1, ((List.getD x1 (Int.toNat x3) zd5).2.2.2.1, ((List.getD x1 (Int.toNat x3) zd5).2.2.2.2.1, ((List.getD x1 (Int.toNat x3) zd5).2.2.2.2.2.1, ((List.getD x1 (Int.toNat x3) zd5).2.2.2.2.2.2.1, ((List.append ([] : List Entry) (List.getD x1 (Int.toNat x3) zd5).2.2.2.2.2.2.2.1), (List.getD x1 (Int.toNat x3) zd5).2.2.2.2.2.2.2.2)))))))) :: ([] : List zt3)) ≤ lim)) = true then
      some (.inl (x1, (x2, ((IntKind.wrap .i64 (x3 + (1 : Int))), ((List.append x4 (((List.getD x1 (Int.toNat x3) zd5).1, ((List.getD x1 (Int.toNat x3) zd5).2.1, ((List.getD x1 (Int.toNat x3) zd5).2.2.1, ((List.getD x1 (Int.toNat x3) zd5).2.2.2.1, ((List.getD x1 (Int.toNat x3) zd5).2.2.2.2.1, ((List.getD x1 (Int.toNat x3) zd5).2.2.2.2.2.1, ((List.getD x1 (Int.toNat x3) zd5).2.2.2.2.2.2.1, ((List.append ([] : List Entry) (List.getD x1 (Int.toNat x3) zd5).2.2.2.2.2.2.2.1), (List.getD x1 (Int.toNat x3) zd5).2.2.2.2.2.2.2.2)))))))) :: ([] : List zt3))), ())))))
     else
      none
    else
     none
   else
    none
  else
   none
 else
  some (.inr (x4, ()))
abbrev wf (x0 : (List zt3)) : Prop := wfA [(.val (.sl 0 zk10) .f)] (x0, ())
noncomputable def raw (x0 : (List zt3)) : Option (Unit × zt29) :=
 if (impl_copyRpcs.pre3 (x0, (((List.length x0 : Nat) : Int), ((0 : Int), (([] : List zt3), ()))))) = true then
  letB (impl_copyRpcs.fn3 (x0, (((List.length x0 : Nat) : Int), ((0 : Int), (([] : List zt3), ()))))) fun v1 =>
  some ((), v1)
 else
  none
theorem ok3 (x1 x2 x3 x4) (hp : pre3 (x1, (x2, (x3, (x4, ())))) = true) : Rounds pre3 mu3 fn3 (x1, (x2, (x3, (x4, ())))) (raw3 x1 x2 x3 x4) := by
  have hp : cpPre rpcS x1 x2 x3 x4 = true := hp
  unfold raw3
  by_cases hlt : x3 < x2
  · obtain ⟨hq, h0, h1, h2, h3, h4, h5, h6⟩ := cp_step zd5 hp hlt
    rw [h3]
    refine R_if (decide_eq_true hlt) ?_
    refine R_if (decide_eq_true h0) ?_
    refine R_if (decide_eq_true h1) ?_
    refine R_if (decide_eq_true (cp_lim hq)) ?_
    refine R_if (decide_eq_true h2) ?_
    exact ⟨h4, h6, congrArg (fun z : List Rpc => ((z, ()) : O3)) h5⟩
  · refine R_else (by rw [decide_eq_true_eq]; exact hlt) ?_
    show _ = _
    exact congrArg (fun z : List Rpc => ((z, ()) : O3)) (cp_end hp hlt).symm
theorem eq (x0 : List Rpc) (_ : wf x0) (hp : pre x0 = true) : raw x0 = some ((), (impl_copyRpcs x0, ())) := by
  simp only [pre, Bool.and_eq_true] at hp
  unfold raw
  exact E_if (show pre3 _ = true from cp_start hp.1 hp.2) rfl
end impl_copyRpcs
def spec_l12Rpcs (x : List Rpc) : List Rpc := x
namespace spec_l12Rpcs
abbrev S3 : Type := ((List zt3) × (Int × zt29))
abbrev O3 : Type := zt29
def pre (x : List Rpc) : Bool := small x && x.all spec_l12Rpc.pre
def pre3 : S3 → Bool := fun (x1, x2, x3, _) => cpPre spec_l12Rpc.pre x1 ((List.length x1 : Nat) : Int) x2 x3
def fn3 : S3 → O3 := fun (x1, x2, x3, _) => (x3 ++ x1.drop x2.toNat, ())
def mu3 : S3 → Nat := fun (x1, x2, _, _) => x1.length - x2.toNat
noncomputable def raw3 (x1 : (List zt3)) (x2 : Int) (x3 : (List zt3)) : Option (((List zt3) × (Int × zt29)) ⊕ zt29) :=
 if (decide (x2 < ((List.length x1 : Nat) : Int))) = true then
  if (decide ((0 : Int) ≤ x2)) = true then
   if (decide (x2 < ((List.length x1 : Nat) : Int))) = true then
    if (spec_l12Rpc.pre (List.getD x1 (Int.toNat x2) zd5)) = true then
     letB (spec_l12Rpc (List.getD x1 (Int.toNat x2) zd5)) fun v1 =>
     if (decide (List.length x3 + List.length (v1 :: ([] : List zt3)) ≤ lim)) = true then
      some (.inl (x1, ((IntKind.wrap .i64 (x2 + (1 : Int))), ((List.append x3 (v1 :: ([] : List zt3))), ()))))
     else
      none
    else
     none
   else
    none
  else
   none
 else
  some (.inr (x3, ()))
abbrev wf (x0 : (List zt3)) : Prop := wfA [(.val (.sl 0 zk10) .f)] (x0, ())
noncomputable def raw (x0 : (List zt3)) : Option (Unit × zt29) :=
 if (spec_l12Rpcs.pre3 (x0, ((0 : Int), (([] : List zt3), ())))) = true then
  letB (spec_l12Rpcs.fn3 (x0, ((0 : Int), (([] : List zt3), ())))) fun v1 =>
  some ((), v1)
 else
  none
theorem ok3 (x1 x2 x3) (hp : pre3 (x1, (x2, (x3, ()))) = true) : Rounds pre3 mu3 fn3 (x1, (x2, (x3, ()))) (raw3 x1 x2 x3) := by
  have hp : cpPre spec_l12Rpc.pre x1 ((List.length x1 : Nat) : Int) x2 x3 = true := hp
  unfold raw3
  by_cases hlt : x2 < ((List.length x1 : Nat) : Int)
  · obtain ⟨hq, h0, h1, h2, h3, h4, h5, h6⟩ := cp_step zd5 hp hlt
    rw [h3]
    refine R_if (decide_eq_true hlt) ?_
    refine R_if (decide_eq_true h0) ?_
    refine R_if (decide_eq_true h1) ?_
    refine R_if hq ?_
    refine R_let ?_
    refine R_if (decide_eq_true h2) ?_
    exact ⟨h4, h6, congrArg (fun z : List Rpc => ((z, ()) : O3)) h5⟩
  · refine R_else (by rw [decide_eq_true_eq]; exact hlt) ?_
    show _ = _
    exact congrArg (fun z : List Rpc => ((z, ()) : O3)) (cp_end hp hlt).symm
theorem eq (x0 : List Rpc) (_ : wf x0) (hp : pre x0 = true) : raw x0 = some ((), (spec_l12Rpcs x0, ())) := by
  simp only [pre, Bool.and_eq_true] at hp
  unfold raw
  exact E_if (show pre3 _ = true from cp_start hp.1 hp.2) rfl
end spec_l12Rpcs
def impl_copyHard (x : Hard) : Hard := x
namespace impl_copyHard
def pre (x : Hard) : Bool := impl_copyLog.pre x.2.2.1 && impl_copyKeep.pre x.2.2.2.1
abbrev wf (x0 : zt23) : Prop := wfA [(.val zk26 .f)] (x0, ())
noncomputable def raw (x0 : zt23) : Option (Unit × (zt23 × Unit)) :=
 if (impl_copyLog.pre x0.2.2.1) = true then
  if (impl_copyKeep.pre x0.2.2.2.1) = true then
   letB (impl_copyLog x0.2.2.1) fun v1 =>
   letB (impl_copyKeep x0.2.2.2.1) fun v2 =>
   some ((), ((x0.1, (x0.2.1, (v1, (v2, x0.2.2.2.2)))), ()))
  else
   none
 else
  none
theorem eq (x0 : Hard) (_ : wf x0) (hp : pre x0 = true) : raw x0 = some ((), (impl_copyHard x0, ())) := by
  simp only [pre, Bool.and_eq_true] at hp
  unfold raw
  exact E_if hp.1 (E_if hp.2 rfl)
end impl_copyHard
def spec_l11Copy (x : Hard) : Hard := x
namespace spec_l11Copy
def pre (x : Hard) : Bool := spec_l8Copy.pre x.2.2.1 && spec_l6Copy.pre x.2.2.2.1
abbrev wf (x0 : zt23) : Prop := wfA [(.val zk26 .f)] (x0, ())
noncomputable def raw (x0 : zt23) : Option (Unit × (zt23 × Unit)) :=
 if (spec_l8Copy.pre x0.2.2.1) = true then
  if (spec_l6Copy.pre x0.2.2.2.1) = true then
   letB (spec_l8Copy x0.2.2.1) fun v1 =>
   letB (spec_l6Copy x0.2.2.2.1) fun v2 =>
   some ((), ((x0.1, (x0.2.1, (v1, (v2, ())))), ()))
  else
   none
 else
  none
theorem eq (x0 : Hard) (_ : wf x0) (hp : pre x0 = true) : raw x0 = some ((), (spec_l11Copy x0, ())) := by
  simp only [pre, Bool.and_eq_true] at hp
  unfold raw
  exact E_if hp.1 (E_if hp.2 rfl)
end spec_l11Copy
def impl_copyPeer (x : Peer) : Peer := x
namespace impl_copyPeer
def pre (x : Peer) : Bool := impl_copyHard.pre x.2.1 && (impl_copyKeep.pre x.2.2.2.2.2.2.2.1 && (impl_copyDisk.pre x.2.2.2.2.2.2.2.2.1 && (impl_copyRpcs.pre x.2.2.2.2.2.2.2.2.2.1 && (small x.2.2.2.1 && (small x.2.2.2.2.1 && small x.2.2.2.2.2.1)))))
abbrev wf (x0 : zt2) : Prop := wfA [(.val zk1 .f)] (x0, ())
noncomputable def raw (x0 : zt2) : Option (Unit × (zt2 × Unit)) :=
 if (impl_copyHard.pre x0.2.1) = true then
  if (impl_copyKeep.pre x0.2.2.2.2.2.2.2.1) = true then
   if (impl_copyDisk.pre x0.2.2.2.2.2.2.2.2.1) = true then
    if (impl_copyRpcs.pre x0.2.2.2.2.2.2.2.2.2.1) = true then
     if (decide (List.length ([] : List Bool) + List.length x0.2.2.2.1 ≤ lim)) = true then
      if (impl_copyInts.pre x0.2.2.2.2.1) = true then
       if (impl_copyInts.pre x0.2.2.2.2.2.1) = true then
        letB (impl_copyHard x0.2.1) fun v1 =>
        letB (impl_copyInts x0.2.2.2.2.1) fun v2 =>
        letB (impl_copyInts x0.2.2.2.2.2.1) fun v3 =>
        letB (impl_copyKeep x0.2.2.2.2.2.2.2.1) fun v4 =>
        letB (impl_copyDisk x0.2.2.2.2.2.2.2.2.1) fun v5 =>
        letB (impl_copyRpcs x0.2.2.2.2.2.2.2.2.2.1) fun v6 =>
        some ((), ((x0.1, (v1, (x0.2.2.1, ((List.append ([] : List Bool) x0.2.2.2.1), (v2, (v3, (x0.2.2.2.2.2.2.1, (v4, (v5, (v6, x0.2.2.2.2.2.2.2.2.2.2)))))))))), ()))
       else
        none
      else
       none
     else
      none
    else
     none
   else
    none
  else
   none
 else
  none
theorem eq (x0 : Peer) (_ : wf x0) (hp : pre x0 = true) : raw x0 = some ((), (impl_copyPeer x0, ())) := by
  simp only [pre, Bool.and_eq_true] at hp
  obtain ⟨a1, a2, a3, a4, a5, a6, a7⟩ := hp
  unfold raw
  exact E_if a1 (E_if a2 (E_if a3 (E_if a4 (E_if (decide_eq_true (cp_lim a5)) (E_if a6 (E_if a7 rfl))))))
end impl_copyPeer
def spec_l12Copy (x : Peer) : Peer := x
namespace spec_l12Copy
def pre (x : Peer) : Bool := spec_l11Copy.pre x.2.1 && (small x.2.2.2.1 && (small x.2.2.2.2.1 && (small x.2.2.2.2.2.1 && (spec_l6Copy.pre x.2.2.2.2.2.2.2.1 && (spec_l10Copy.pre x.2.2.2.2.2.2.2.2.1 && spec_l12Rpcs.pre x.2.2.2.2.2.2.2.2.2.1)))))
abbrev wf (x0 : zt2) : Prop := wfA [(.val zk1 .f)] (x0, ())
noncomputable def raw (x0 : zt2) : Option (Unit × (zt2 × Unit)) :=
 if (spec_l11Copy.pre x0.2.1) = true then
  if (decide (List.length ([] : List Bool) + List.length x0.2.2.2.1 ≤ lim)) = true then
   if (decide (List.length ([] : List Int) + List.length x0.2.2.2.2.1 ≤ lim)) = true then
    if (decide (List.length ([] : List Int) + List.length x0.2.2.2.2.2.1 ≤ lim)) = true then
     if (spec_l6Copy.pre x0.2.2.2.2.2.2.2.1) = true then
      if (spec_l10Copy.pre x0.2.2.2.2.2.2.2.2.1) = true then
       if (spec_l12Rpcs.pre x0.2.2.2.2.2.2.2.2.2.1) = true then
        letB (spec_l11Copy x0.2.1) fun v1 =>
        letB (spec_l6Copy x0.2.2.2.2.2.2.2.1) fun v2 =>
        letB (spec_l10Copy x0.2.2.2.2.2.2.2.2.1) fun v3 =>
        letB (spec_l12Rpcs x0.2.2.2.2.2.2.2.2.2.1) fun v4 =>
        some ((), ((x0.1, (v1, (x0.2.2.1, ((List.append ([] : List Bool) x0.2.2.2.1), ((List.append ([] : List Int) x0.2.2.2.2.1), ((List.append ([] : List Int) x0.2.2.2.2.2.1), (x0.2.2.2.2.2.2.1, (v2, (v3, (v4, ())))))))))), ()))
       else
        none
      else
       none
     else
      none
    else
     none
   else
    none
  else
   none
 else
  none
theorem eq (x0 : Peer) (_ : wf x0) (hp : pre x0 = true) : raw x0 = some ((), (spec_l12Copy x0, ())) := by
  simp only [pre, Bool.and_eq_true] at hp
  obtain ⟨a1, a2, a3, a4, a5, a6, a7⟩ := hp
  unfold raw
  exact E_if a1 (E_if (decide_eq_true (cp_lim a2)) (E_if (decide_eq_true (cp_lim a3)) (E_if (decide_eq_true (cp_lim a4)) (E_if a5 (E_if a6 (E_if a7 rfl))))))
end spec_l12Copy
def setHeld (n : Peer) (l : List Rpc) : Peer := (n.1, (n.2.1, (n.2.2.1, (n.2.2.2.1, (n.2.2.2.2.1, (n.2.2.2.2.2.1, (n.2.2.2.2.2.2.1, (n.2.2.2.2.2.2.2.1, (n.2.2.2.2.2.2.2.2.1, (l, n.2.2.2.2.2.2.2.2.2.2))))))))))
def Peer_tells (n : Peer) (r : Rpc) : Peer × Bool := if 40 ≤ (n.2.2.2.2.2.2.2.2.2.1.length : Int) then (n, false) else (setHeld n (n.2.2.2.2.2.2.2.2.2.1 ++ [r]), true)
namespace Peer_tells
def pre (n : Peer) (_ : Rpc) : Bool := small n.2.2.2.2.2.2.2.2.2.1
abbrev wf (x0 : zt2) (x1 : zt3) : Prop := wfA [(.ref zk1 .o), (.val zk10 .o)] (x0, (x1, ()))
noncomputable def raw (x0 : zt2) (x1 : zt3) : Option ((zt2 × Unit) × (Bool × Unit)) :=
 if (decide ((40 : Int) ≤ ((List.length x0.2.2.2.2.2.2.2.2.2.1 : Nat) : Int))) = true then
  some ((x0, ()), (false, ()))
 else
  if (decide (List.length x0.2.2.2.2.2.2.2.2.2.1 + List.length (x1 :: ([] : List zt3)) ≤ lim)) = true then
   some (((x0.1, (x0.2.1, (x0.2.2.1, (x0.2.2.2.1, (x0.2.2.2.2.1, (x0.2.2.2.2.2.1, (x0.2.2.2.2.2.2.1, (x0.2.2.2.2.2.2.2.1, (x0.2.2.2.2.2.2.2.2.1, ((List.append x0.2.2.2.2.2.2.2.2.2.1 (x1 :: ([] : List zt3))), x0.2.2.2.2.2.2.2.2.2.2)))))))))), ()), (true, ()))
  else
   none
theorem eq (x0 : Peer) (x1 : Rpc) (_ : wf x0 x1) (hp : pre x0 x1 = true) : raw x0 x1 = some (((Peer_tells x0 x1).1, ()), ((Peer_tells x0 x1).2, ())) := by
  have hs : small x0.2.2.2.2.2.2.2.2.2.1 = true := hp
  rw [small_iff] at hs
  unfold raw Peer_tells
  by_cases h : 40 ≤ (x0.2.2.2.2.2.2.2.2.2.1.length : Int)
  · rw [if_pos h]
    exact E_if (decide_eq_true h) rfl
  · rw [if_neg h]
    refine E_else (by rw [decide_eq_true_eq]; exact h) (E_if ?_ rfl)
    simp only [List.length_cons, List.length_nil, lim, decide_eq_true_eq]; omega
end Peer_tells
def impl_Tell (n : Peer) (r : Rpc) : Peer × Bool := Peer_tells n r
namespace impl_Tell
def pre (n : Peer) (r : Rpc) : Bool := impl_copyPeer.pre n && (small r.2.2.2.2.2.2.2.1 && small n.2.2.2.2.2.2.2.2.2.1)
abbrev wf (x0 : zt2) (x1 : zt3) : Prop := wfA [(.val zk1 .f), (.val zk10 .f)] (x0, (x1, ()))
noncomputable def raw (x0 : zt2) (x1 : zt3) : Option (Unit × (zt2 × (Bool × Unit))) :=
 if (impl_copyPeer.pre x0) = true then
  if (decide (List.length ([] : List Entry) + List.length x1.2.2.2.2.2.2.2.1 ≤ lim)) = true then
   letB (impl_copyPeer x0) fun v1 =>
   if (Peer_tells.pre v1 (x1.1, (x1.2.1, (x1.2.2.1, (x1.2.2.2.1, (x1.2.2.2.2.1, (x1.2.2.2.2.2.1, (x1.2.2.2.2.2.2.1, ((List.append ([] : List Entry) x1.2.2.2.2.2.2.2.1), x1.2.2.2.2.2.2.2.2))))))))) = true then
    letB (Peer_tells v1 (x1.1, (x1.2.1, (x1.2.2.1, (x1.2.2.2.1, (x1.2.2.2.2.1, (x1.2.2.2.2.2.1, (x1.2.2.2.2.2.2.1, ((List.append ([] : List Entry) x1.2.2.2.2.2.2.2.1), x1.2.2.2.2.2.2.2.2))))))))) fun v2 =>
    some ((), (v2.1, (v2.2, ())))
   else
    none
  else
   none
 else
  none
theorem eq (x0 : Peer) (x1 : Rpc) (_ : wf x0 x1) (hp : pre x0 x1 = true) : raw x0 x1 = some ((), ((impl_Tell x0 x1).1, ((impl_Tell x0 x1).2, ()))) := by
  simp only [pre, Bool.and_eq_true] at hp
  unfold raw
  exact E_if hp.1 (E_if (decide_eq_true (cp_lim hp.2.1)) (E_let (E_if (show Peer_tells.pre _ _ = true from hp.2.2) rfl)))
end impl_Tell
def spec_Tell (n : Peer) (r : Rpc) : Peer × Bool := Peer_tells n r
namespace spec_Tell
def pre (n : Peer) (r : Rpc) : Bool := spec_l12Copy.pre n && (spec_l12Rpc.pre r && small n.2.2.2.2.2.2.2.2.2.1)
abbrev wf (x0 : zt2) (x1 : zt3) : Prop := wfA [(.val zk1 .f), (.val zk10 .f)] (x0, (x1, ()))
noncomputable def raw (x0 : zt2) (x1 : zt3) : Option (Unit × (zt2 × (Bool × Unit))) :=
 if (spec_l12Copy.pre x0) = true then
  if (decide ((40 : Int) ≤ ((List.length x0.2.2.2.2.2.2.2.2.2.1 : Nat) : Int))) = true then
   letB (spec_l12Copy x0) fun v1 =>
   some ((), (v1, (false, ())))
  else
   if (spec_l12Rpc.pre x1) = true then
    letB (spec_l12Copy x0) fun v2 =>
    letB (spec_l12Rpc x1) fun v3 =>
    if (decide (List.length v2.2.2.2.2.2.2.2.2.2.1 + List.length (v3 :: ([] : List zt3)) ≤ lim)) = true then
     some ((), ((v2.1, (v2.2.1, (v2.2.2.1, (v2.2.2.2.1, (v2.2.2.2.2.1, (v2.2.2.2.2.2.1, (v2.2.2.2.2.2.2.1, (v2.2.2.2.2.2.2.2.1, (v2.2.2.2.2.2.2.2.2.1, ((List.append v2.2.2.2.2.2.2.2.2.2.1 (v3 :: ([] : List zt3))), v2.2.2.2.2.2.2.2.2.2.2)))))))))), (true, ())))
    else
     none
   else
    none
 else
  none
theorem eq (x0 : Peer) (x1 : Rpc) (_ : wf x0 x1) (hp : pre x0 x1 = true) : raw x0 x1 = some ((), ((spec_Tell x0 x1).1, ((spec_Tell x0 x1).2, ()))) := by
  simp only [pre, Bool.and_eq_true] at hp
  have hs := small_iff.1 hp.2.2
  unfold raw spec_Tell Peer_tells
  refine E_if hp.1 ?_
  by_cases h : 40 ≤ (x0.2.2.2.2.2.2.2.2.2.1.length : Int)
  · rw [if_pos h]
    exact E_if (decide_eq_true h) rfl
  · rw [if_neg h]
    refine E_else (by rw [decide_eq_true_eq]; exact h) (E_if hp.2.1 (E_let (E_let (E_if ?_ rfl))))
    show decide (x0.2.2.2.2.2.2.2.2.2.1.length + 1 ≤ lim) = true
    rw [decide_eq_true_eq]; simp only [lim]; omega
end spec_Tell
section
variable {α : Type}
theorem small_w {w : α → Int} (h : ∀ x, 0 ≤ w x) {xs : List α} (hl : wL w xs ≤ 16777216) : small xs = true := by
  have := wL_nn h xs
  rw [small_iff]; omega
theorem all_w {w : α → Int} (h : ∀ x, 0 ≤ w x) {q : α → Bool} (hq : ∀ x, w x ≤ 16777216 → q x = true) {xs : List α} (hl : wL w xs ≤ 16777216) : xs.all q = true :=
  List.all_eq_true.2 fun x hx => hq x (by have := wL_get h hx; omega)
end
theorem groupS_w {x : Group} (h : w_Group x ≤ 16777216) : groupS x = true := by
  have n1 := wL_nn w_Int_nn x.2.1
  have n2 := wL_nn w_Int_nn x.2.2.1
  have n3 := wL_nn w_Int_nn x.2.2.2.1
  simp only [w_Group] at h
  simp only [groupS, Bool.and_eq_true, small_iff]; omega
theorem copyKeep_pre {x : Keep} (h : w_Keep x ≤ 16777216) : impl_copyKeep.pre x = true ∧ spec_l6Copy.pre x = true := by
  have n1 := wL_nn w_Row_nn x.1
  have n2 := wL_nn w_Maker_nn x.2.1
  have n3 := wL_nn w_Group_nn x.2.2.1
  have n4 := wL_nn w_Int_nn x.2.2.2.2.1
  have n5 := wL_nn w_Answer_nn x.2.2.2.2.2.1
  simp only [w_Keep] at h
  have r : x.1.all (fun r : Row => small r.2.2.1) = true := all_w w_Row_nn (fun r hr => small_w w_Item_nn hr) (by omega)
  have m : x.2.1.all (fun r : Maker => small r.2.2.2.2.1) = true := all_w w_Maker_nn (fun r hr => small_w w_Mark_nn hr) (by omega)
  have g : x.2.2.1.all groupS = true := all_w w_Group_nn (fun r hr => groupS_w hr) (by omega)
  have s1 : small x.1 = true := small_w w_Row_nn (by omega)
  have s2 : small x.2.1 = true := small_w w_Maker_nn (by omega)
  have s3 : small x.2.2.1 = true := small_w w_Group_nn (by omega)
  have s4 : small x.2.2.2.2.1 = true := small_w w_Int_nn (by omega)
  have s5 : small x.2.2.2.2.2.1 = true := small_w w_Answer_nn (by omega)
  simp only [impl_copyKeep.pre, spec_l6Copy.pre, Bool.and_eq_true]
  exact ⟨⟨s1, r, s2, m, s3, g, s4, s5⟩, ⟨s1, r, s2, m, s3, g, s4, s5⟩⟩
theorem copyHard_pre {x : Hard} (h : w_Hard x ≤ 16777216) : impl_copyHard.pre x = true ∧ spec_l11Copy.pre x = true := by
  have n1 := w_Log_nn x.2.2.1
  have n2 := w_Keep_nn x.2.2.2.1
  simp only [w_Hard] at h
  have k := copyKeep_pre (x := x.2.2.2.1) (by omega)
  have l : small x.2.2.1.2.2.1 = true := small_w w_Entry_nn (show wL w_Entry x.2.2.1.2.2.1 ≤ _ by simp only [w_Log] at h; omega)
  simp only [impl_copyHard.pre, spec_l11Copy.pre, Bool.and_eq_true]
  exact ⟨⟨l, k.1⟩, ⟨l, k.2⟩⟩
theorem copyPeer_pre {x : Peer} (h : w_Peer x ≤ 16777216) : impl_copyPeer.pre x = true ∧ spec_l12Copy.pre x = true ∧ small x.2.2.2.2.2.2.2.2.2.1 = true := by
  have n1 := w_Hard_nn x.2.1
  have n2 := wL_nn w_Bool_nn x.2.2.2.1
  have n3 := wL_nn w_Int_nn x.2.2.2.2.1
  have n4 := wL_nn w_Int_nn x.2.2.2.2.2.1
  have n5 := w_Keep_nn x.2.2.2.2.2.2.2.1
  have n6 := w_Disk_nn x.2.2.2.2.2.2.2.2.1
  have n7 := wL_nn w_Rpc_nn x.2.2.2.2.2.2.2.2.2.1
  simp only [w_Peer] at h
  have a := copyHard_pre (x := x.2.1) (by omega)
  have b := copyKeep_pre (x := x.2.2.2.2.2.2.2.1) (by omega)
  have c : small x.2.2.2.2.2.2.2.2.1.1 = true := small_w w_Byte_nn (show wL w_Byte x.2.2.2.2.2.2.2.2.1.1 ≤ _ by simp only [w_Disk] at h; omega)
  have d : x.2.2.2.2.2.2.2.2.2.1.all rpcS = true := all_w w_Rpc_nn (fun r hr => small_w w_Entry_nn (by have := wL_nn w_Entry_nn r.2.2.2.2.2.2.2.1; simp only [w_Rpc] at hr; omega)) (by omega)
  have s0 : small x.2.2.2.2.2.2.2.2.2.1 = true := small_w w_Rpc_nn (by omega)
  have s1 : small x.2.2.2.1 = true := small_w w_Bool_nn (by omega)
  have s2 : small x.2.2.2.2.1 = true := small_w w_Int_nn (by omega)
  have s3 : small x.2.2.2.2.2.1 = true := small_w w_Int_nn (by omega)
  have r1 : impl_copyRpcs.pre x.2.2.2.2.2.2.2.2.2.1 = true := by rw [impl_copyRpcs.pre, s0, d]; rfl
  have r2 : spec_l12Rpcs.pre x.2.2.2.2.2.2.2.2.2.1 = true := by rw [spec_l12Rpcs.pre, s0]; exact d
  simp only [impl_copyPeer.pre, spec_l12Copy.pre, Bool.and_eq_true]
  exact ⟨⟨a.1, b.1, c, r1, s1, s2, s3⟩, ⟨a.2, s1, s2, s3, b.2, c, r2⟩, s0⟩
theorem sumW_app {α : Type} (w : α → Int) : (xs ys : List α) → sumW w (xs ++ ys) = sumW w xs + sumW w ys
  | [], ys => by simp [sumW]
  | a :: r, ys => by simp only [List.cons_append, sumW, sumW_app w r ys]; omega
theorem wL_snoc {α : Type} (w : α → Int) (xs : List α) (x : α) : wL w (xs ++ [x]) = wL w xs + 1 + w x := by
  simp only [wL, sumW_app, sumW, List.length_append, List.length_cons, List.length_nil]; omega
theorem tells_w (n : Peer) (r : Rpc) : w_Peer (Peer_tells n r).1 ≤ w_Peer n + 1 + w_Rpc r := by
  have := w_Rpc_nn r
  unfold Peer_tells
  split
  · simp only []; omega
  · have e := wL_snoc w_Rpc n.2.2.2.2.2.2.2.2.2.1 r
    simp only [w_Peer, setHeld]; omega
def laws_FnExactTell (_ : Peer) (_ : Rpc) : Bool := true
namespace laws_FnExactTell
abbrev wf (x0 : zt2) (x1 : zt3) : Prop := wfA [(.val zk1 .f), (.val zk10 .f)] (x0, (x1, ()))
noncomputable def raw (x0 : zt2) (x1 : zt3) : Option zt25 :=
 if (laws_szPeer.pre x0 (1048576 : Int)) = true then
  letB (laws_szPeer x0 (1048576 : Int)) fun v1 =>
  if (decide (v1 < (0 : Int))) = true then
   some ((), (true, ()))
  else
   if (laws_szRpc.pre x1 v1) = true then
    letB (laws_szRpc x1 v1) fun v2 =>
    if (decide (v2 < (0 : Int))) = true then
     some ((), (true, ()))
    else
     if (laws_toPeer.pre x0) = true then
      if (laws_toRpc.pre x1) = true then
       letB (laws_toPeer x0) fun v3 =>
       letB (laws_toRpc x1) fun v4 =>
       if (spec_Tell.pre v3 v4) = true then
        if (laws_toPeer.pre x0) = true then
         if (laws_toRpc.pre x1) = true then
          if (impl_Tell.pre v3 v4) = true then
           letB (impl_Tell v3 v4) fun v5 =>
           letB (spec_Tell v3 v4) fun v6 =>
           letB (laws_eqPeer v5.1 v6.1) fun v7 =>
           if (!v7) = true then
            some ((), (false, ()))
           else
            if (!(v5.2 == v6.2)) = true then
             some ((), (false, ()))
            else
             if (laws_toPeer.pre x0) = true then
              letB (laws_eqPeer v3 v3) fun v8 =>
              if (!v8) = true then
               some ((), (false, ()))
              else
               if (laws_toRpc.pre x1) = true then
                letB (laws_eqRpc v4 v4) fun v9 =>
                if (!v9) = true then
                 some ((), (false, ()))
                else
                 if (laws_markPeer.pre v3 (1 : Int)) = true then
                  letB (laws_markPeer v3 (1 : Int)) fun v10 =>
                  if (laws_markRpc.pre v4 v10.2) = true then
                   letB (laws_markRpc v4 v10.2) fun v11 =>
                   if (decide (v11.2 < (0 : Int))) = true then
                    some ((), (false, ()))
                   else
                    if (!v7) = true then
                     some ((), (false, ()))
                    else
                     if (!(v5.2 == v6.2)) = true then
                      some ((), (false, ()))
                     else
                      if (laws_markPeer.pre v5.1 (1 : Int)) = true then
                       letB (laws_markPeer v5.1 (1 : Int)) fun v12 =>
                       if (laws_heldPeer.pre (v5.1.1, ((v5.1.2.1.1, (v5.1.2.1.2.1, ((v5.1.2.1.2.2.1.1, (v5.1.2.1.2.2.1.2.1, (v12.1.2.1.2.2.1.2.2.1, v5.1.2.1.2.2.1.2.2.2))), ((v12.1.2.1.2.2.2.1.1, (v12.1.2.1.2.2.2.1.2.1, (v12.1.2.1.2.2.2.1.2.2.1, (v5.1.2.1.2.2.2.1.2.2.2.1, (v12.1.2.1.2.2.2.1.2.2.2.2.1, (v12.1.2.1.2.2.2.1.2.2.2.2.2.1, v5.1.2.1.2.2.2.1.2.2.2.2.2.2)))))), v5.1.2.1.2.2.2.2)))), (v5.1.2.2.1, (v12.1.2.2.2.1, (v12.1.2.2.2.2.1, (v12.1.2.2.2.2.2.1, (v5.1.2.2.2.2.2.2.1, ((v12.1.2.2.2.2.2.2.2.1.1, (v12.1.2.2.2.2.2.2.2.1.2.1, (v12.1.2.2.2.2.2.2.2.1.2.2.1, (v5.1.2.2.2.2.2.2.2.1.2.2.2.1, (v12.1.2.2.2.2.2.2.2.1.2.2.2.2.1, (v12.1.2.2.2.2.2.2.2.1.2.2.2.2.2.1, v5.1.2.2.2.2.2.2.2.1.2.2.2.2.2.2)))))), ((v12.1.2.2.2.2.2.2.2.2.1.1, v5.1.2.2.2.2.2.2.2.2.1.2), (v12.1.2.2.2.2.2.2.2.2.2.1, v5.1.2.2.2.2.2.2.2.2.2.2)))))))))) (1 : Int)) = true then
                        letB (laws_heldPeer (v5.1.1, ((v5.1.2.1.1, (v5.1.2.1.2.1, ((v5.1.2.1.2.2.1.1, (v5.1.2.1.2.2.1.2.1, (v12.1.2.1.2.2.1.2.2.1, v5.1.2.1.2.2.1.2.2.2))), ((v12.1.2.1.2.2.2.1.1, (v12.1.2.1.2.2.2.1.2.1, (v12.1.2.1.2.2.2.1.2.2.1, (v5.1.2.1.2.2.2.1.2.2.2.1, (v12.1.2.1.2.2.2.1.2.2.2.2.1, (v12.1.2.1.2.2.2.1.2.2.2.2.2.1, v5.1.2.1.2.2.2.1.2.2.2.2.2.2)))))), v5.1.2.1.2.2.2.2)))), (v5.1.2.2.1, (v12.1.2.2.2.1, (v12.1.2.2.2.2.1, (v12.1.2.2.2.2.2.1, (v5.1.2.2.2.2.2.2.1, ((v12.1.2.2.2.2.2.2.2.1.1, (v12.1.2.2.2.2.2.2.2.1.2.1, (v12.1.2.2.2.2.2.2.2.1.2.2.1, (v5.1.2.2.2.2.2.2.2.1.2.2.2.1, (v12.1.2.2.2.2.2.2.2.1.2.2.2.2.1, (v12.1.2.2.2.2.2.2.2.1.2.2.2.2.2.1, v5.1.2.2.2.2.2.2.2.1.2.2.2.2.2.2)))))), ((v12.1.2.2.2.2.2.2.2.2.1.1, v5.1.2.2.2.2.2.2.2.2.1.2), (v12.1.2.2.2.2.2.2.2.2.2.1, v5.1.2.2.2.2.2.2.2.2.2.2)))))))))) (1 : Int)) fun v13 =>
                        if (decide (v13 < (0 : Int))) = true then
                         some ((), (false, ()))
                        else
                         if (!(decide (v13 = v12.2))) = true then
                          some ((), (false, ()))
                         else
                          if (laws_toPeer.pre x0) = true then
                           if (laws_toRpc.pre x1) = true then
                            if (impl_Tell.pre v3 v4) = true then
                             letB (impl_Tell v3 v4) fun v14 =>
                             letB (laws_eqPeer v14.1 v6.1) fun v15 =>
                             if (!v15) = true then
                              some ((), (false, ()))
                             else
                              if (!(v14.2 == v6.2)) = true then
                               some ((), (false, ()))
                              else
                               if (laws_heldPeer.pre (v5.1.1, ((v5.1.2.1.1, (v5.1.2.1.2.1, ((v5.1.2.1.2.2.1.1, (v5.1.2.1.2.2.1.2.1, (v12.1.2.1.2.2.1.2.2.1, v5.1.2.1.2.2.1.2.2.2))), ((v12.1.2.1.2.2.2.1.1, (v12.1.2.1.2.2.2.1.2.1, (v12.1.2.1.2.2.2.1.2.2.1, (v5.1.2.1.2.2.2.1.2.2.2.1, (v12.1.2.1.2.2.2.1.2.2.2.2.1, (v12.1.2.1.2.2.2.1.2.2.2.2.2.1, v5.1.2.1.2.2.2.1.2.2.2.2.2.2)))))), v5.1.2.1.2.2.2.2)))), (v5.1.2.2.1, (v12.1.2.2.2.1, (v12.1.2.2.2.2.1, (v12.1.2.2.2.2.2.1, (v5.1.2.2.2.2.2.2.1, ((v12.1.2.2.2.2.2.2.2.1.1, (v12.1.2.2.2.2.2.2.2.1.2.1, (v12.1.2.2.2.2.2.2.2.1.2.2.1, (v5.1.2.2.2.2.2.2.2.1.2.2.2.1, (v12.1.2.2.2.2.2.2.2.1.2.2.2.2.1, (v12.1.2.2.2.2.2.2.2.1.2.2.2.2.2.1, v5.1.2.2.2.2.2.2.2.1.2.2.2.2.2.2)))))), ((v12.1.2.2.2.2.2.2.2.2.1.1, v5.1.2.2.2.2.2.2.2.2.1.2), (v12.1.2.2.2.2.2.2.2.2.2.1, v5.1.2.2.2.2.2.2.2.2.2.2)))))))))) (1 : Int)) = true then
                                if (decide (v13 < (0 : Int))) = true then
                                 some ((), (false, ()))
                                else
                                 if (!(decide (v13 = v12.2))) = true then
                                  some ((), (false, ()))
                                 else
                                  some ((), (true, ()))
                               else
                                none
                            else
                             none
                           else
                            none
                          else
                           none
                       else
                        none
                      else
                       none
                  else
                   none
                 else
                  none
               else
                none
             else
              none
          else
           none
         else
          none
        else
         none
       else
        none
      else
       none
     else
      none
   else
    none
 else
  none
theorem eq (x0 : Peer) (x1 : Rpc) (_ : wf x0 x1) : raw x0 x1 = some ((), (laws_FnExactTell x0 x1, ())) := by
  have hM := maxLen_eq
  have z0 := w_Peer_nn x0
  have z1 := w_Rpc_nn x1
  unfold raw
  refine E_if (show laws_szPeer.pre _ _ = true by simp only [laws_szPeer.pre, Bool.and_eq_true, decide_eq_true_eq]; omega) (E_let ?_)
  by_cases h : 1048576 - w_Peer x0 < 0
  · rw [show laws_szPeer x0 1048576 = -1 from szN_neg h]
    exact E_if (by decide) rfl
  rw [show laws_szPeer x0 1048576 = 1048576 - w_Peer x0 from szN_pos h]
  refine E_else (by rw [decide_eq_true_eq]; exact h) ?_
  refine E_if (show laws_szRpc.pre _ _ = true by simp only [laws_szRpc.pre, Bool.and_eq_true, decide_eq_true_eq]; omega) (E_let ?_)
  by_cases h2 : 1048576 - w_Peer x0 - w_Rpc x1 < 0
  · rw [show laws_szRpc x1 (1048576 - w_Peer x0) = -1 from szN_neg h2]
    exact E_if (by decide) rfl
  rw [show laws_szRpc x1 (1048576 - w_Peer x0) = 1048576 - w_Peer x0 - w_Rpc x1 from szN_pos h2]
  refine E_else (by rw [decide_eq_true_eq]; exact h2) ?_
  have p0 : laws_toPeer.pre x0 = true := toPeer_pre (by omega)
  have p1 : laws_toRpc.pre x1 = true := toRpc_pre (by omega)
  obtain ⟨c1, c2, c3⟩ := copyPeer_pre (x := x0) (by omega)
  have c4 : small x1.2.2.2.2.2.2.2.1 = true := small_w w_Entry_nn (by simp only [w_Rpc] at h2 z1; omega)
  have q1 : impl_Tell.pre x0 x1 = true := by simp only [impl_Tell.pre, Bool.and_eq_true]; exact ⟨c1, c4, c3⟩
  have q2 : spec_Tell.pre x0 x1 = true := by simp only [spec_Tell.pre, Bool.and_eq_true]; exact ⟨c2, c4, c3⟩
  have tw := tells_w x0 x1
  have l0 := cntT_Peer_le x0
  have l1 := cntT_Rpc_le x1
  have l2 := cntT_Peer_le (Peer_tells x0 x1).1
  have m0 := cntT_Peer_nn x0
  have m1 := cntT_Rpc_nn x1
  have m2 := cntT_Peer_nn (Peer_tells x0 x1).1
  have s1 : laws_markPeer.pre x0 1 = true := markPeer_pre (by omega) (by omega)
  have s2 : laws_markRpc.pre x1 (1 + cntT_Peer x0) = true := markRpc_pre (by omega) (by omega)
  have s3 : laws_markPeer.pre (Peer_tells x0 x1).1 1 = true := markPeer_pre (by omega) (by omega)
  have s4 : laws_heldPeer.pre (mkT_Peer (Peer_tells x0 x1).1 1) 1 = true := heldPeer_pre (by omega) (by rw [mkT_Peer_keep]; omega)
  have s5 : laws_heldPeer (mkT_Peer (Peer_tells x0 x1).1 1) 1 = 1 + cntT_Peer (Peer_tells x0 x1).1 := held_markPeer _ 1
  have eqs : ∀ a : Peer, ¬ (!laws_eqPeer a a) = true := fun a => by rw [show laws_eqPeer a a = true from same_self a]; decide
  have eqb : ∀ a : Bool, ¬ (!(a == a)) = true := fun a => by simp
  refine E_if p0 (E_if p1 (E_let (E_let (E_if q2 (E_if p0 (E_if p1 (E_if q1 (E_let (E_let (E_let ?_))))))))))
  refine E_else (eqs _) (E_else (eqb _) (E_if p0 (E_let (E_else (eqs _) (E_if p1 (E_let ?_))))))
  refine E_else (show ¬ (!laws_eqRpc x1 x1) = true by rw [show laws_eqRpc x1 x1 = true from same_self x1]; decide) ?_
  refine E_if s1 (E_let (E_if s2 (E_let (E_else (show ¬ decide (1 + cntT_Peer x0 + cntT_Rpc x1 < 0) = true by rw [decide_eq_true_eq]; omega) ?_))))
  refine E_else (eqs _) (E_else (eqb _) (E_if s3 (E_let (E_if s4 (E_let ?_)))))
  refine E_else (show ¬ decide (laws_heldPeer (mkT_Peer (Peer_tells x0 x1).1 1) 1 < 0) = true by rw [s5, decide_eq_true_eq]; omega) ?_
  refine E_else (show ¬ (!decide (laws_heldPeer (mkT_Peer (Peer_tells x0 x1).1 1) 1 = 1 + cntT_Peer (Peer_tells x0 x1).1)) = true by rw [s5]; simp) ?_
  refine E_if p0 (E_if p1 (E_if q1 (E_let (E_let (E_else (eqs _) (E_else (eqb _) (E_if s4 ?_)))))))
  refine E_else (show ¬ decide (laws_heldPeer (mkT_Peer (Peer_tells x0 x1).1 1) 1 < 0) = true by rw [s5, decide_eq_true_eq]; omega) ?_
  exact E_else (show ¬ (!decide (laws_heldPeer (mkT_Peer (Peer_tells x0 x1).1 1) 1 = 1 + cntT_Peer (Peer_tells x0 x1).1)) = true by rw [s5]; simp) rfl
end laws_FnExactTell
end Go.Aw.Pl
