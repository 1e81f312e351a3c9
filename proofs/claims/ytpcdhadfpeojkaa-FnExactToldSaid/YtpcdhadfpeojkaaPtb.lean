import Derived.Test.YtpcdhadfpeojkaaPta
namespace Go.Aw.Pl
open Go Go.Aw
set_option linter.unusedVariables false
set_option linter.unusedSimpArgs false
namespace laws_toPeerS
def pre (xs : List Peer) : Bool := small xs && xs.all laws_toPeer.pre
noncomputable def pre3 := tcPreB (α := Peer) laws_toPeer.pre
def fn3 := toFn (α := Peer)
def mu3 := toMu (α := Peer)
noncomputable def raw3 (x1 : (List (Int × ((Int × (Int × (Log × (((List Row) × ((List Maker) × ((List Group) × (Int × ((List Int) × ((List Answer) × Unit)))))) × Unit)))) × (Int × ((List Bool) × ((List Int) × ((List Int) × (Int × (((List Row) × ((List Maker) × ((List Group) × (Int × ((List Int) × ((List Answer) × Unit)))))) × (Disk × ((List (Int × (Int × (Int × (Int × (Int × (Int × (Int × ((List Entry) × (Bool × ((List UInt8) × Unit))))))))))) × Unit)))))))))))) (x2 : Int) (x3 : (List (Int × ((Int × (Int × (Log × (((List Row) × ((List Maker) × ((List Group) × (Int × ((List Int) × ((List Answer) × Unit)))))) × Unit)))) × (Int × ((List Bool) × ((List Int) × ((List Int) × (Int × (((List Row) × ((List Maker) × ((List Group) × (Int × ((List Int) × ((List Answer) × Unit)))))) × (Disk × ((List (Int × (Int × (Int × (Int × (Int × (Int × (Int × ((List Entry) × (Bool × ((List UInt8) × Unit))))))))))) × Unit)))))))))))) : Option (((List (Int × ((Int × (Int × (Log × (((List Row) × ((List Maker) × ((List Group) × (Int × ((List Int) × ((List Answer) × Unit)))))) × Unit)))) × (Int × ((List Bool) × ((List Int) × ((List Int) × (Int × (((List Row) × ((List Maker) × ((List Group) × (Int × ((List Int) × ((List Answer) × Unit)))))) × (Disk × ((List (Int × (Int × (Int × (Int × (Int × (Int × (Int × ((List Entry) × (Bool × ((List UInt8) × Unit))))))))))) × Unit))))))))))) × (Int × ((List (Int × ((Int × (Int × (Log × (((List Row) × ((List Maker) × ((List Group) × (Int × ((List Int) × ((List Answer) × Unit)))))) × Unit)))) × (Int × ((List Bool) × ((List Int) × ((List Int) × (Int × (((List Row) × ((List Maker) × ((List Group) × (Int × ((List Int) × ((List Answer) × Unit)))))) × (Disk × ((List (Int × (Int × (Int × (Int × (Int × (Int × (Int × ((List Entry) × (Bool × ((List UInt8) × Unit))))))))))) × Unit))))))))))) × Unit))) ⊕ ((List (Int × ((Int × (Int × (Log × (((List Row) × ((List Maker) × ((List Group) × (Int × ((List Int) × ((List Answer) × Unit)))))) × Unit)))) × (Int × ((List Bool) × ((List Int) × ((List Int) × (Int × (((List Row) × ((List Maker) × ((List Group) × (Int × ((List Int) × ((List Answer) × Unit)))))) × (Disk × ((List (Int × (Int × (Int × (Int × (Int × (Int × (Int × ((List Entry) × (Bool × ((List UInt8) × Unit))))))))))) × Unit))))))))))) × Unit)) :=
 if (decide (x2 < ((List.length x1 : Nat) : Int))) = true then
  if (decide ((0 : Int) ≤ x2)) = true then
   if (decide (x2 < ((List.length x1 : Nat) : Int))) = true then
    if (laws_toPeer.pre (List.getD x1 (Int.toNat x2) ((0 : Int), (((0 : Int), ((0 : Int), (((0 : Int), ((0 : Int), (([] : List Entry), ()))), ((([] : List Row), (([] : List Maker), (([] : List Group), ((0 : Int), (([] : List Int), (([] : List Answer), ())))))), ())))), ((0 : Int), (([] : List Bool), (([] : List Int), (([] : List Int), ((0 : Int), ((([] : List Row), (([] : List Maker), (([] : List Group), ((0 : Int), (([] : List Int), (([] : List Answer), ())))))), ((([] : List Int), ((0 : Int), ())), (([] : List (Int × (Int × (Int × (Int × (Int × (Int × (Int × ((List Entry) × (Bool × ((List UInt8) × Unit))))))))))), ())))))))))))) = true then
     if (decide ((0 : Int) ≤ x2)) = true then
      if (decide (x2 < ((List.length x3 : Nat) : Int))) = true then
       some (.inl (x1, ((IntKind.wrap .i64 (x2 + (1 : Int))), ((List.modify x3 (Int.toNat x2) (fun z => (laws_toPeer (List.getD x1 (Int.toNat x2) ((0 : Int), (((0 : Int), ((0 : Int), (((0 : Int), ((0 : Int), (([] : List Entry), ()))), ((([] : List Row), (([] : List Maker), (([] : List Group), ((0 : Int), (([] : List Int), (([] : List Answer), ())))))), ())))), ((0 : Int), (([] : List Bool), (([] : List Int), (([] : List Int), ((0 : Int), ((([] : List Row), (([] : List Maker), (([] : List Group), ((0 : Int), (([] : List Int), (([] : List Answer), ())))))), ((([] : List Int), ((0 : Int), ())), (([] : List (Int × (Int × (Int × (Int × (Int × (Int × (Int × ((List Entry) × (Bool × ((List UInt8) × Unit))))))))))), ())))))))))))))), ()))))
      else
       none
     else
      none
    else
     none
   else
    none
  else
   none
 else
  some (.inr (x3, ()))
abbrev wf (x0 : (List (Int × ((Int × (Int × (Log × (((List Row) × ((List Maker) × ((List Group) × (Int × ((List Int) × ((List Answer) × Unit)))))) × Unit)))) × (Int × ((List Bool) × ((List Int) × ((List Int) × (Int × (((List Row) × ((List Maker) × ((List Group) × (Int × ((List Int) × ((List Answer) × Unit)))))) × (Disk × ((List (Int × (Int × (Int × (Int × (Int × (Int × (Int × ((List Entry) × (Bool × ((List UInt8) × Unit))))))))))) × Unit)))))))))))) : Prop := wfA [(.val (.sl 0 (.pair (.int .i64) (.pair (.pair (.int .i64) (.pair (.int .i64) (.pair (.pair (.int .i64) (.pair (.int .i64) (.pair (.sl 0 (.pair (.int .i64) (.pair (.pair (.int .i64) (.pair (.int .i64) (.pair (.int .i64) (.pair (.int .i64) (.pair (.int .i64) (.pair (.int .i64) (.pair .str (.pair .str .unit)))))))) .unit))) .unit))) (.pair (.pair (.sl 0 (.pair (.int .i64) (.pair (.int .i64) (.pair (.sl 0 (.pair (.int .i64) (.pair .str (.pair .str (.pair (.int .i64) (.pair (.int .i64) .unit)))))) .unit)))) (.pair (.sl 0 (.pair (.int .i64) (.pair (.int .i64) (.pair (.int .i64) (.pair (.int .i64) (.pair (.sl 0 (.pair (.int .i64) (.pair (.int .i64) .unit))) .unit)))))) (.pair (.sl 0 (.pair (.int .i64) (.pair (.sl 0 (.int .i64)) (.pair (.sl 0 (.int .i64)) (.pair (.sl 0 (.int .i64)) .unit))))) (.pair (.int .i64) (.pair (.sl 0 (.int .i64)) (.pair (.sl 0 (.pair (.int .i64) (.pair (.int .i64) (.pair .str (.pair .str .unit))))) .unit)))))) .unit)))) (.pair (.int .i64) (.pair (.sl 0 .bool) (.pair (.sl 0 (.int .i64)) (.pair (.sl 0 (.int .i64)) (.pair (.int .i64) (.pair (.pair (.sl 0 (.pair (.int .i64) (.pair (.int .i64) (.pair (.sl 0 (.pair (.int .i64) (.pair .str (.pair .str (.pair (.int .i64) (.pair (.int .i64) .unit)))))) .unit)))) (.pair (.sl 0 (.pair (.int .i64) (.pair (.int .i64) (.pair (.int .i64) (.pair (.int .i64) (.pair (.sl 0 (.pair (.int .i64) (.pair (.int .i64) .unit))) .unit)))))) (.pair (.sl 0 (.pair (.int .i64) (.pair (.sl 0 (.int .i64)) (.pair (.sl 0 (.int .i64)) (.pair (.sl 0 (.int .i64)) .unit))))) (.pair (.int .i64) (.pair (.sl 0 (.int .i64)) (.pair (.sl 0 (.pair (.int .i64) (.pair (.int .i64) (.pair .str (.pair .str .unit))))) .unit)))))) (.pair (.pair (.sl 0 (.int .u8)) (.pair (.int .i64) .unit)) (.pair (.sl 0 (.pair (.int .i64) (.pair (.int .i64) (.pair (.int .i64) (.pair (.int .i64) (.pair (.int .i64) (.pair (.int .i64) (.pair (.int .i64) (.pair (.sl 0 (.pair (.int .i64) (.pair (.pair (.int .i64) (.pair (.int .i64) (.pair (.int .i64) (.pair (.int .i64) (.pair (.int .i64) (.pair (.int .i64) (.pair .str (.pair .str .unit)))))))) .unit))) (.pair .bool (.pair .str .unit))))))))))) .unit))))))))))) .f)] (x0, ())
noncomputable def raw (x0 : (List (Int × ((Int × (Int × (Log × (((List Row) × ((List Maker) × ((List Group) × (Int × ((List Int) × ((List Answer) × Unit)))))) × Unit)))) × (Int × ((List Bool) × ((List Int) × ((List Int) × (Int × (((List Row) × ((List Maker) × ((List Group) × (Int × ((List Int) × ((List Answer) × Unit)))))) × (Disk × ((List (Int × (Int × (Int × (Int × (Int × (Int × (Int × ((List Entry) × (Bool × ((List UInt8) × Unit))))))))))) × Unit)))))))))))) : Option (Unit × ((List (Int × ((Int × (Int × (Log × (((List Row) × ((List Maker) × ((List Group) × (Int × ((List Int) × ((List Answer) × Unit)))))) × Unit)))) × (Int × ((List Bool) × ((List Int) × ((List Int) × (Int × (((List Row) × ((List Maker) × ((List Group) × (Int × ((List Int) × ((List Answer) × Unit)))))) × (Disk × ((List (Int × (Int × (Int × (Int × (Int × (Int × (Int × ((List Entry) × (Bool × ((List UInt8) × Unit))))))))))) × Unit))))))))))) × Unit)) :=
 if (decide ((0 : Int) ≤ ((List.length x0 : Nat) : Int))) = true then
  if (decide (((List.length x0 : Nat) : Int) ≤ ((List.length x0 : Nat) : Int))) = true then
   if (decide (((List.length x0 : Nat) : Int) ≤ (4294967296 : Int))) = true then
    if (laws_toPeerS.pre3 (x0, ((0 : Int), ((List.replicate (Int.toNat ((List.length x0 : Nat) : Int)) ((0 : Int), (((0 : Int), ((0 : Int), (((0 : Int), ((0 : Int), (([] : List Entry), ()))), ((([] : List Row), (([] : List Maker), (([] : List Group), ((0 : Int), (([] : List Int), (([] : List Answer), ())))))), ())))), ((0 : Int), (([] : List Bool), (([] : List Int), (([] : List Int), ((0 : Int), ((([] : List Row), (([] : List Maker), (([] : List Group), ((0 : Int), (([] : List Int), (([] : List Answer), ())))))), ((([] : List Int), ((0 : Int), ())), (([] : List (Int × (Int × (Int × (Int × (Int × (Int × (Int × ((List Entry) × (Bool × ((List UInt8) × Unit))))))))))), ()))))))))))), ())))) = true then
     letB (laws_toPeerS.fn3 (x0, ((0 : Int), ((List.replicate (Int.toNat ((List.length x0 : Nat) : Int)) ((0 : Int), (((0 : Int), ((0 : Int), (((0 : Int), ((0 : Int), (([] : List Entry), ()))), ((([] : List Row), (([] : List Maker), (([] : List Group), ((0 : Int), (([] : List Int), (([] : List Answer), ())))))), ())))), ((0 : Int), (([] : List Bool), (([] : List Int), (([] : List Int), ((0 : Int), ((([] : List Row), (([] : List Maker), (([] : List Group), ((0 : Int), (([] : List Int), (([] : List Answer), ())))))), ((([] : List Int), ((0 : Int), ())), (([] : List (Int × (Int × (Int × (Int × (Int × (Int × (Int × ((List Entry) × (Bool × ((List UInt8) × Unit))))))))))), ()))))))))))), ())))) fun v1 =>
     some ((), v1)
    else
     none
   else
    none
  else
   none
 else
  none
theorem ok3 (x1 : List Peer) (x2 : Int) (x3 : List Peer) (hp : pre3 (x1, (x2, (x3, ()))) = true) : Rounds pre3 mu3 fn3 (x1, (x2, (x3, ()))) (raw3 x1 x2 x3) := by
  unfold raw3
  by_cases hlt : x2 < (x1.length : Int)
  · obtain ⟨h1, h2, h3⟩ := tc_facts hp hlt ((0 : Int), (((0 : Int), ((0 : Int), (((0 : Int), ((0 : Int), (([] : List Entry), ()))), ((([] : List Row), (([] : List Maker), (([] : List Group), ((0 : Int), (([] : List Int), (([] : List Answer), ())))))), ())))), ((0 : Int), (([] : List Bool), (([] : List Int), (([] : List Int), ((0 : Int), ((([] : List Row), (([] : List Maker), (([] : List Group), ((0 : Int), (([] : List Int), (([] : List Answer), ())))))), ((([] : List Int), ((0 : Int), ())), (([] : List Rpc), ()))))))))))
    simp only [letB, hlt, h1, h2, h3, decide_true, if_true]
    exact tc_step hp hlt ((0 : Int), (((0 : Int), ((0 : Int), (((0 : Int), ((0 : Int), (([] : List Entry), ()))), ((([] : List Row), (([] : List Maker), (([] : List Group), ((0 : Int), (([] : List Int), (([] : List Answer), ())))))), ())))), ((0 : Int), (([] : List Bool), (([] : List Int), (([] : List Int), ((0 : Int), ((([] : List Row), (([] : List Maker), (([] : List Group), ((0 : Int), (([] : List Int), (([] : List Answer), ())))))), ((([] : List Int), ((0 : Int), ())), (([] : List Rpc), ())))))))))) rfl
  · rw [if_neg (by simp [hlt])]; exact tc_end hp hlt
theorem eq (x0 : List Peer) (hw : wf x0) (hp : pre x0 = true) : raw x0 = some ((), (laws_toPeerS x0, ())) := by
  have h1 : x0.length ≤ maxLen := hw.1.1
  simp only [pre, Bool.and_eq_true, small_iff] at hp
  unfold raw
  rw [if_pos (by simp), if_pos (by simp), if_pos (by simp; omega), if_pos (show pre3 _ = true from tc_start h1 hp.2 _)]
  rfl
end laws_toPeerS
theorem toPeerS_pre {xs : List Peer} (h : wL w_Peer xs ≤ 16777216) : laws_toPeerS.pre xs = true := by
  have hl := wL_nn w_Peer_nn xs
  simp only [laws_toPeerS.pre, Bool.and_eq_true, small_iff]
  refine ⟨by omega, List.all_eq_true.2 fun x hx => toPeer_pre ?_⟩
  have := wL_get w_Peer_nn hx
  omega
def laws_szPeerS (xs : List Peer) (l : Int) : Int := szN (wL w_Peer xs) l
namespace laws_szPeerS
def pre (_ : List Peer) (l : Int) : Bool := decide (0 ≤ l) && decide (l ≤ maxLen)
def pre5 := swPre (α := Peer)
def fn5 := swFn w_Peer
def mu5 := szMu (α := Peer)
noncomputable def raw5 (x1 : (List (Int × ((Int × (Int × (Log × (((List Row) × ((List Maker) × ((List Group) × (Int × ((List Int) × ((List Answer) × Unit)))))) × Unit)))) × (Int × ((List Bool) × ((List Int) × ((List Int) × (Int × (((List Row) × ((List Maker) × ((List Group) × (Int × ((List Int) × ((List Answer) × Unit)))))) × (Disk × ((List (Int × (Int × (Int × (Int × (Int × (Int × (Int × ((List Entry) × (Bool × ((List UInt8) × Unit))))))))))) × Unit)))))))))))) (x2 : Int) (x3 : Int) : Option (((List (Int × ((Int × (Int × (Log × (((List Row) × ((List Maker) × ((List Group) × (Int × ((List Int) × ((List Answer) × Unit)))))) × Unit)))) × (Int × ((List Bool) × ((List Int) × ((List Int) × (Int × (((List Row) × ((List Maker) × ((List Group) × (Int × ((List Int) × ((List Answer) × Unit)))))) × (Disk × ((List (Int × (Int × (Int × (Int × (Int × (Int × (Int × ((List Entry) × (Bool × ((List UInt8) × Unit))))))))))) × Unit))))))))))) × Mark) ⊕ ((Int × Unit) ⊕ (Int × Unit))) :=
 if (decide (x3 < ((List.length x1 : Nat) : Int))) = true then
  if (decide ((0 : Int) ≤ x3)) = true then
   if (decide (x3 < ((List.length x1 : Nat) : Int))) = true then
    if (laws_szPeer.pre (List.getD x1 (Int.toNat x3) ((0 : Int), (((0 : Int), ((0 : Int), (((0 : Int), ((0 : Int), (([] : List Entry), ()))), ((([] : List Row), (([] : List Maker), (([] : List Group), ((0 : Int), (([] : List Int), (([] : List Answer), ())))))), ())))), ((0 : Int), (([] : List Bool), (([] : List Int), (([] : List Int), ((0 : Int), ((([] : List Row), (([] : List Maker), (([] : List Group), ((0 : Int), (([] : List Int), (([] : List Answer), ())))))), ((([] : List Int), ((0 : Int), ())), (([] : List (Int × (Int × (Int × (Int × (Int × (Int × (Int × ((List Entry) × (Bool × ((List UInt8) × Unit))))))))))), ()))))))))))) x2) = true then
     letB (laws_szPeer (List.getD x1 (Int.toNat x3) ((0 : Int), (((0 : Int), ((0 : Int), (((0 : Int), ((0 : Int), (([] : List Entry), ()))), ((([] : List Row), (([] : List Maker), (([] : List Group), ((0 : Int), (([] : List Int), (([] : List Answer), ())))))), ())))), ((0 : Int), (([] : List Bool), (([] : List Int), (([] : List Int), ((0 : Int), ((([] : List Row), (([] : List Maker), (([] : List Group), ((0 : Int), (([] : List Int), (([] : List Answer), ())))))), ((([] : List Int), ((0 : Int), ())), (([] : List (Int × (Int × (Int × (Int × (Int × (Int × (Int × ((List Entry) × (Bool × ((List UInt8) × Unit))))))))))), ()))))))))))) x2) fun v1 =>
     if (decide (v1 < (0 : Int))) = true then
      some (.inr (.inl ((-1 : Int), ())))
     else
      some (.inl (x1, (v1, ((IntKind.wrap .i64 (x3 + (1 : Int))), ()))))
    else
     none
   else
    none
  else
   none
 else
  some (.inr (.inr (x2, ())))
abbrev wf (x0 : (List (Int × ((Int × (Int × (Log × (((List Row) × ((List Maker) × ((List Group) × (Int × ((List Int) × ((List Answer) × Unit)))))) × Unit)))) × (Int × ((List Bool) × ((List Int) × ((List Int) × (Int × (((List Row) × ((List Maker) × ((List Group) × (Int × ((List Int) × ((List Answer) × Unit)))))) × (Disk × ((List (Int × (Int × (Int × (Int × (Int × (Int × (Int × ((List Entry) × (Bool × ((List UInt8) × Unit))))))))))) × Unit)))))))))))) (x1 : Int) : Prop := wfA [(.val (.sl 0 (.pair (.int .i64) (.pair (.pair (.int .i64) (.pair (.int .i64) (.pair (.pair (.int .i64) (.pair (.int .i64) (.pair (.sl 0 (.pair (.int .i64) (.pair (.pair (.int .i64) (.pair (.int .i64) (.pair (.int .i64) (.pair (.int .i64) (.pair (.int .i64) (.pair (.int .i64) (.pair .str (.pair .str .unit)))))))) .unit))) .unit))) (.pair (.pair (.sl 0 (.pair (.int .i64) (.pair (.int .i64) (.pair (.sl 0 (.pair (.int .i64) (.pair .str (.pair .str (.pair (.int .i64) (.pair (.int .i64) .unit)))))) .unit)))) (.pair (.sl 0 (.pair (.int .i64) (.pair (.int .i64) (.pair (.int .i64) (.pair (.int .i64) (.pair (.sl 0 (.pair (.int .i64) (.pair (.int .i64) .unit))) .unit)))))) (.pair (.sl 0 (.pair (.int .i64) (.pair (.sl 0 (.int .i64)) (.pair (.sl 0 (.int .i64)) (.pair (.sl 0 (.int .i64)) .unit))))) (.pair (.int .i64) (.pair (.sl 0 (.int .i64)) (.pair (.sl 0 (.pair (.int .i64) (.pair (.int .i64) (.pair .str (.pair .str .unit))))) .unit)))))) .unit)))) (.pair (.int .i64) (.pair (.sl 0 .bool) (.pair (.sl 0 (.int .i64)) (.pair (.sl 0 (.int .i64)) (.pair (.int .i64) (.pair (.pair (.sl 0 (.pair (.int .i64) (.pair (.int .i64) (.pair (.sl 0 (.pair (.int .i64) (.pair .str (.pair .str (.pair (.int .i64) (.pair (.int .i64) .unit)))))) .unit)))) (.pair (.sl 0 (.pair (.int .i64) (.pair (.int .i64) (.pair (.int .i64) (.pair (.int .i64) (.pair (.sl 0 (.pair (.int .i64) (.pair (.int .i64) .unit))) .unit)))))) (.pair (.sl 0 (.pair (.int .i64) (.pair (.sl 0 (.int .i64)) (.pair (.sl 0 (.int .i64)) (.pair (.sl 0 (.int .i64)) .unit))))) (.pair (.int .i64) (.pair (.sl 0 (.int .i64)) (.pair (.sl 0 (.pair (.int .i64) (.pair (.int .i64) (.pair .str (.pair .str .unit))))) .unit)))))) (.pair (.pair (.sl 0 (.int .u8)) (.pair (.int .i64) .unit)) (.pair (.sl 0 (.pair (.int .i64) (.pair (.int .i64) (.pair (.int .i64) (.pair (.int .i64) (.pair (.int .i64) (.pair (.int .i64) (.pair (.int .i64) (.pair (.sl 0 (.pair (.int .i64) (.pair (.pair (.int .i64) (.pair (.int .i64) (.pair (.int .i64) (.pair (.int .i64) (.pair (.int .i64) (.pair (.int .i64) (.pair .str (.pair .str .unit)))))))) .unit))) (.pair .bool (.pair .str .unit))))))))))) .unit))))))))))) .f), (.val (.int .i64) .f)] (x0, (x1, ()))
noncomputable def raw (x0 : (List (Int × ((Int × (Int × (Log × (((List Row) × ((List Maker) × ((List Group) × (Int × ((List Int) × ((List Answer) × Unit)))))) × Unit)))) × (Int × ((List Bool) × ((List Int) × ((List Int) × (Int × (((List Row) × ((List Maker) × ((List Group) × (Int × ((List Int) × ((List Answer) × Unit)))))) × (Disk × ((List (Int × (Int × (Int × (Int × (Int × (Int × (Int × ((List Entry) × (Bool × ((List UInt8) × Unit))))))))))) × Unit)))))))))))) (x1 : Int) : Option (Unit × (Int × Unit)) :=
 if (decide ((IntKind.wrap .i64 (x1 - ((List.length x0 : Nat) : Int))) < (0 : Int))) = true then
  some ((), ((-1 : Int), ()))
 else
  if (laws_szPeerS.pre5 (x0, ((IntKind.wrap .i64 (x1 - ((List.length x0 : Nat) : Int))), ((0 : Int), ())))) = true then
   letB (laws_szPeerS.fn5 (x0, ((IntKind.wrap .i64 (x1 - ((List.length x0 : Nat) : Int))), ((0 : Int), ())))) fun v1 =>
   match v1 with
   | .inl y =>
    some ((), y)
   | .inr y =>
    some ((), y)
  else
   none
theorem ok5 (x1 : List Peer) (x2 x3 : Int) (hp : pre5 (x1, (x2, (x3, ()))) = true) : Rounds pre5 mu5 fn5 (x1, (x2, (x3, ()))) (raw5 x1 x2 x3) := by
  unfold raw5
  by_cases hlt : x3 < (x1.length : Int)
  · obtain ⟨h0, h1, h2⟩ := sw_facts hp
    have q : laws_szPeer.pre (x1.getD x3.toNat ((0 : Int), (((0 : Int), ((0 : Int), (((0 : Int), ((0 : Int), (([] : List Entry), ()))), ((([] : List Row), (([] : List Maker), (([] : List Group), ((0 : Int), (([] : List Int), (([] : List Answer), ())))))), ())))), ((0 : Int), (([] : List Bool), (([] : List Int), (([] : List Int), ((0 : Int), ((([] : List Row), (([] : List Maker), (([] : List Group), ((0 : Int), (([] : List Int), (([] : List Answer), ())))))), ((([] : List Int), ((0 : Int), ())), (([] : List Rpc), ()))))))))))) x2 = true := by simp only [laws_szPeer.pre, Bool.and_eq_true, decide_eq_true_eq]; exact ⟨h1, h2⟩
    simp only [letB, hlt, h0, q, decide_true, if_true]
    by_cases c : x2 - w_Peer (x1.getD x3.toNat ((0 : Int), (((0 : Int), ((0 : Int), (((0 : Int), ((0 : Int), (([] : List Entry), ()))), ((([] : List Row), (([] : List Maker), (([] : List Group), ((0 : Int), (([] : List Int), (([] : List Answer), ())))))), ())))), ((0 : Int), (([] : List Bool), (([] : List Int), (([] : List Int), ((0 : Int), ((([] : List Row), (([] : List Maker), (([] : List Group), ((0 : Int), (([] : List Int), (([] : List Answer), ())))))), ((([] : List Int), ((0 : Int), ())), (([] : List Rpc), ()))))))))))) < 0
    · rw [show laws_szPeer (x1.getD x3.toNat ((0 : Int), (((0 : Int), ((0 : Int), (((0 : Int), ((0 : Int), (([] : List Entry), ()))), ((([] : List Row), (([] : List Maker), (([] : List Group), ((0 : Int), (([] : List Int), (([] : List Answer), ())))))), ())))), ((0 : Int), (([] : List Bool), (([] : List Int), (([] : List Int), ((0 : Int), ((([] : List Row), (([] : List Maker), (([] : List Group), ((0 : Int), (([] : List Int), (([] : List Answer), ())))))), ((([] : List Int), ((0 : Int), ())), (([] : List Rpc), ()))))))))))) x2 = -1 from szN_neg c, if_pos (by decide)]; exact sw_bad w_Peer_nn hp hlt ((0 : Int), (((0 : Int), ((0 : Int), (((0 : Int), ((0 : Int), (([] : List Entry), ()))), ((([] : List Row), (([] : List Maker), (([] : List Group), ((0 : Int), (([] : List Int), (([] : List Answer), ())))))), ())))), ((0 : Int), (([] : List Bool), (([] : List Int), (([] : List Int), ((0 : Int), ((([] : List Row), (([] : List Maker), (([] : List Group), ((0 : Int), (([] : List Int), (([] : List Answer), ())))))), ((([] : List Int), ((0 : Int), ())), (([] : List Rpc), ())))))))))) c
    · rw [show laws_szPeer (x1.getD x3.toNat ((0 : Int), (((0 : Int), ((0 : Int), (((0 : Int), ((0 : Int), (([] : List Entry), ()))), ((([] : List Row), (([] : List Maker), (([] : List Group), ((0 : Int), (([] : List Int), (([] : List Answer), ())))))), ())))), ((0 : Int), (([] : List Bool), (([] : List Int), (([] : List Int), ((0 : Int), ((([] : List Row), (([] : List Maker), (([] : List Group), ((0 : Int), (([] : List Int), (([] : List Answer), ())))))), ((([] : List Int), ((0 : Int), ())), (([] : List Rpc), ()))))))))))) x2 = x2 - w_Peer (x1.getD x3.toNat ((0 : Int), (((0 : Int), ((0 : Int), (((0 : Int), ((0 : Int), (([] : List Entry), ()))), ((([] : List Row), (([] : List Maker), (([] : List Group), ((0 : Int), (([] : List Int), (([] : List Answer), ())))))), ())))), ((0 : Int), (([] : List Bool), (([] : List Int), (([] : List Int), ((0 : Int), ((([] : List Row), (([] : List Maker), (([] : List Group), ((0 : Int), (([] : List Int), (([] : List Answer), ())))))), ((([] : List Int), ((0 : Int), ())), (([] : List Rpc), ()))))))))))) from szN_pos c, if_neg (by rw [decide_eq_true_eq]; exact c)]; exact sw_good w_Peer_nn hp hlt ((0 : Int), (((0 : Int), ((0 : Int), (((0 : Int), ((0 : Int), (([] : List Entry), ()))), ((([] : List Row), (([] : List Maker), (([] : List Group), ((0 : Int), (([] : List Int), (([] : List Answer), ())))))), ())))), ((0 : Int), (([] : List Bool), (([] : List Int), (([] : List Int), ((0 : Int), ((([] : List Row), (([] : List Maker), (([] : List Group), ((0 : Int), (([] : List Int), (([] : List Answer), ())))))), ((([] : List Int), ((0 : Int), ())), (([] : List Rpc), ())))))))))) c
  · rw [if_neg (by simp [hlt])]; exact sw_end hp hlt
theorem eq (x0 : List Peer) (x1 : Int) (hw : wf x0 x1) (hp : pre x0 x1 = true) : raw x0 x1 = some ((), (laws_szPeerS x0 x1, ())) := by
  have h1 : x0.length ≤ maxLen := hw.1.1
  simp only [pre, Bool.and_eq_true, decide_eq_true_eq] at hp
  have hM := maxLen_eq
  have hnn := sumW_nn w_Peer_nn x0
  unfold raw
  rw [w64 (n := x1 - (x0.length : Int)) (by omega) (by omega)]
  by_cases c : x1 - (x0.length : Int) < 0
  · rw [if_pos (decide_eq_true c), show laws_szPeerS x0 x1 = -1 from szN_neg (by simp only [wL]; omega)]
  · rw [if_neg (by rw [decide_eq_true_eq]; exact c), if_pos (show pre5 _ = true from sw_start h1 (by omega) (by omega))]
    exact swFn_start x0 x1
end laws_szPeerS
def w_Heard (x : Heard) : Int := w_Answer x.2.2.1
theorem w_Heard_nn (x : Heard) : 0 ≤ w_Heard x := by
  have n2 := w_Answer_nn x.2.2.1
  simp only [w_Heard]; omega
noncomputable def laws_eqHeard (a b : Heard) : Bool := same a b
namespace laws_eqHeard
abbrev wf (x0 : Heard) (x1 : Heard) : Prop := wfA [(.val (.pair (.int .i64) (.pair (.int .i64) (.pair (.pair (.int .i64) (.pair (.int .i64) (.pair .str (.pair .str .unit)))) (.pair (.int .i64) (.pair (.int .i64) .unit))))) .f), (.val (.pair (.int .i64) (.pair (.int .i64) (.pair (.pair (.int .i64) (.pair (.int .i64) (.pair .str (.pair .str .unit)))) (.pair (.int .i64) (.pair (.int .i64) .unit))))) .f)] (x0, (x1, ()))
noncomputable def raw (x0 : Heard) (x1 : Heard) : Option (Unit × (Bool × Unit)) :=
 if (!(decide (x0.1 = x1.1))) = true then
  some ((), (false, ()))
 else
  if (!(decide (x0.2.1 = x1.2.1))) = true then
   some ((), (false, ()))
  else
   letB (laws_eqAnswer x0.2.2.1 x1.2.2.1) fun v1 =>
   if (!v1) = true then
    some ((), (false, ()))
   else
    if (!(decide (x0.2.2.2.1 = x1.2.2.2.1))) = true then
     some ((), (false, ()))
    else
     if (!(decide (x0.2.2.2.2.1 = x1.2.2.2.2.1))) = true then
      some ((), (false, ()))
     else
      some ((), (true, ()))
theorem eq (x0 x1 : Heard) (_ : wf x0 x1) : raw x0 x1 = some ((), (laws_eqHeard x0 x1, ())) := by
  unfold raw laws_eqHeard
  try simp only [letB]
  by_cases c0 : x0.1 = x1.1
  case neg => rw [if_pos (by simp [c0]), same_false.2 (fun h => c0 (congrArg (fun z : Heard => z.1) h))]
  rw [if_neg (by simp [c0])]
  by_cases c1 : x0.2.1 = x1.2.1
  case neg => rw [if_pos (by simp [c1]), same_false.2 (fun h => c1 (congrArg (fun z : Heard => z.2.1) h))]
  rw [if_neg (by simp [c1])]
  by_cases c2 : x0.2.2.1 = x1.2.2.1
  case neg => rw [if_pos (by rw [laws_eqAnswer, same_false.2 c2]; rfl), same_false.2 (fun h => c2 (congrArg (fun z : Heard => z.2.2.1) h))]
  rw [if_neg (by rw [laws_eqAnswer, same_true.2 c2]; simp)]
  by_cases c3 : x0.2.2.2.1 = x1.2.2.2.1
  case neg => rw [if_pos (by simp [c3]), same_false.2 (fun h => c3 (congrArg (fun z : Heard => z.2.2.2.1) h))]
  rw [if_neg (by simp [c3])]
  by_cases c4 : x0.2.2.2.2.1 = x1.2.2.2.2.1
  case neg => rw [if_pos (by simp [c4]), same_false.2 (fun h => c4 (congrArg (fun z : Heard => z.2.2.2.2.1) h))]
  rw [if_neg (by simp [c4])]
  rw [same_true.2 (Prod.ext c0 (Prod.ext c1 (Prod.ext c2 (Prod.ext c3 (Prod.ext c4 rfl)))))]
end laws_eqHeard
def laws_toHeard (x : Heard) : Heard := x
namespace laws_toHeard
abbrev wf (x0 : Heard) : Prop := wfA [(.val (.pair (.int .i64) (.pair (.int .i64) (.pair (.pair (.int .i64) (.pair (.int .i64) (.pair .str (.pair .str .unit)))) (.pair (.int .i64) (.pair (.int .i64) .unit))))) .f)] (x0, ())
noncomputable def raw (x0 : Heard) : Option (Unit × (Heard × Unit)) :=
 letB (laws_toAnswer x0.2.2.1) fun v1 =>
 some ((), ((x0.1, (x0.2.1, (v1, x0.2.2.2))), ()))
theorem eq (x0 : Heard) (_ : wf x0) : raw x0 = some ((), (laws_toHeard x0, ())) := rfl
end laws_toHeard
def laws_szHeard (x : Heard) (l : Int) : Int := szN (w_Heard x) l
namespace laws_szHeard
def pre (_ : Heard) (l : Int) : Bool := decide (0 ≤ l) && decide (l ≤ maxLen)
abbrev wf (x0 : Heard) (x1 : Int) : Prop := wfA [(.val (.pair (.int .i64) (.pair (.int .i64) (.pair (.pair (.int .i64) (.pair (.int .i64) (.pair .str (.pair .str .unit)))) (.pair (.int .i64) (.pair (.int .i64) .unit))))) .f), (.val (.int .i64) .f)] (x0, (x1, ()))
noncomputable def raw (x0 : Heard) (x1 : Int) : Option (Unit × (Int × Unit)) :=
 if (laws_szAnswer.pre x0.2.2.1 x1) = true then
  letB (laws_szAnswer x0.2.2.1 x1) fun v1 =>
  if (decide (v1 < (0 : Int))) = true then
   some ((), ((-1 : Int), ()))
  else
   some ((), (v1, ()))
 else
  none
theorem eq (x0 : Heard) (x1 : Int) (hw : wf x0 x1) (hp : pre x0 x1 = true) : raw x0 x1 = some ((), (laws_szHeard x0 x1, ())) := by
  simp only [pre, Bool.and_eq_true, decide_eq_true_eq] at hp
  have hM := maxLen_eq
  have t2 := w_Answer_nn x0.2.2.1
  unfold raw
  try simp only [letB]
  rw [if_pos (show laws_szAnswer.pre _ _ = true by simp only [laws_szAnswer.pre, Bool.and_eq_true, decide_eq_true_eq]; omega)]
  by_cases c2 : x1 - w_Answer x0.2.2.1 < 0
  · rw [show laws_szAnswer x0.2.2.1 (x1) = -1 from szN_neg c2, if_pos (by decide), show laws_szHeard x0 x1 = -1 from szN_neg (by simp only [w_Heard]; omega)]
  rw [show laws_szAnswer x0.2.2.1 (x1) = x1 - w_Answer x0.2.2.1 from szN_pos c2, if_neg (by rw [decide_eq_true_eq]; exact c2)]
  rw [show laws_szHeard x0 x1 = x1 - w_Answer x0.2.2.1 from by rw [laws_szHeard, szN_pos (by simp only [w_Heard]; omega)]; simp only [w_Heard]]
end laws_szHeard
noncomputable def laws_eqHeardS (a b : List Heard) : Bool := same a b
namespace laws_eqHeardS
def pre4 := eqPre (α := Heard)
noncomputable def fn4 := eqFn (α := Heard)
def mu4 := eqMu (α := Heard)
noncomputable def raw4 (x1 : (List Heard)) (x2 : (List Heard)) (x3 : Int) : Option (((List Heard) × ((List Heard) × (Int × Unit))) ⊕ ((Bool × Unit) ⊕ Unit)) :=
 if (decide (x3 < ((List.length x1 : Nat) : Int))) = true then
  if (decide ((0 : Int) ≤ x3)) = true then
   if (decide (x3 < ((List.length x1 : Nat) : Int))) = true then
    if (decide ((0 : Int) ≤ x3)) = true then
     if (decide (x3 < ((List.length x2 : Nat) : Int))) = true then
      letB (laws_eqHeard (List.getD x1 (Int.toNat x3) ((0 : Int), ((0 : Int), (((0 : Int), ((0 : Int), (([] : List UInt8), (([] : List UInt8), ())))), ((0 : Int), ((0 : Int), ())))))) (List.getD x2 (Int.toNat x3) ((0 : Int), ((0 : Int), (((0 : Int), ((0 : Int), (([] : List UInt8), (([] : List UInt8), ())))), ((0 : Int), ((0 : Int), ()))))))) fun v1 =>
      if (!v1) = true then
       some (.inr (.inl (false, ())))
      else
       some (.inl (x1, (x2, ((IntKind.wrap .i64 (x3 + (1 : Int))), ()))))
     else
      none
    else
     none
   else
    none
  else
   none
 else
  some (.inr (.inr ()))
abbrev wf (x0 : (List Heard)) (x1 : (List Heard)) : Prop := wfA [(.val (.sl 0 (.pair (.int .i64) (.pair (.int .i64) (.pair (.pair (.int .i64) (.pair (.int .i64) (.pair .str (.pair .str .unit)))) (.pair (.int .i64) (.pair (.int .i64) .unit)))))) .f), (.val (.sl 0 (.pair (.int .i64) (.pair (.int .i64) (.pair (.pair (.int .i64) (.pair (.int .i64) (.pair .str (.pair .str .unit)))) (.pair (.int .i64) (.pair (.int .i64) .unit)))))) .f)] (x0, (x1, ()))
noncomputable def raw (x0 : (List Heard)) (x1 : (List Heard)) : Option (Unit × (Bool × Unit)) :=
 if (!(decide (((List.length x0 : Nat) : Int) = ((List.length x1 : Nat) : Int)))) = true then
  some ((), (false, ()))
 else
  if (laws_eqHeardS.pre4 (x0, (x1, ((0 : Int), ())))) = true then
   letB (laws_eqHeardS.fn4 (x0, (x1, ((0 : Int), ())))) fun v1 =>
   match v1 with
   | .inl y =>
    some ((), y)
   | .inr y =>
    some ((), (true, ()))
  else
   none
theorem ok4 (x1 x2 : List Heard) (x3 : Int) (hp : pre4 (x1, (x2, (x3, ()))) = true) : Rounds pre4 mu4 fn4 (x1, (x2, (x3, ()))) (raw4 x1 x2 x3) := by
  unfold raw4
  by_cases hlt : x3 < (x1.length : Int)
  · obtain ⟨h1, h2, h3, h4⟩ := eq_next hp hlt ((0 : Int), ((0 : Int), (((0 : Int), ((0 : Int), (([] : List UInt8), (([] : List UInt8), ())))), ((0 : Int), ((0 : Int), ())))))
    simp only [letB, hlt, h1, h2, decide_true, if_true]
    by_cases h : x1.getD x3.toNat ((0 : Int), ((0 : Int), (((0 : Int), ((0 : Int), (([] : List UInt8), (([] : List UInt8), ())))), ((0 : Int), ((0 : Int), ()))))) = x2.getD x3.toNat ((0 : Int), ((0 : Int), (((0 : Int), ((0 : Int), (([] : List UInt8), (([] : List UInt8), ())))), ((0 : Int), ((0 : Int), ())))))
    · rw [if_neg (by rw [laws_eqHeard, same_true.2 h]; simp)]; exact h3 h
    · rw [if_pos (by rw [laws_eqHeard, same_false.2 h]; rfl)]; exact h4 h
  · simp only [hlt, decide_false, Bool.false_eq_true, if_false]
    exact eq_end hp hlt
theorem eq (x0 x1 : List Heard) (hw : wf x0 x1) : raw x0 x1 = some ((), (laws_eqHeardS x0 x1, ())) := by
  have h1 : x0.length ≤ maxLen := hw.1.1
  unfold raw laws_eqHeardS
  by_cases hl : (x0.length : Int) = (x1.length : Int)
  · rw [if_neg (by simp [hl]), if_pos (show pre4 _ = true from eq_start h1 hl)]
    unfold fn4
    by_cases he : x0 = x1
    · rw [eqFn_eq he, same_true.2 he]; rfl
    · rw [eqFn_ne he, same_false.2 he]; rfl
  · have : ¬ x0 = x1 := fun h => hl (by rw [h])
    rw [if_pos (by simp [hl]), same_false.2 this]
end laws_eqHeardS
def laws_toHeardS (xs : List Heard) : List Heard := xs
namespace laws_toHeardS
def pre (xs : List Heard) : Bool := small xs && xs.all (fun _ => true)
noncomputable def pre3 := tcPreB (α := Heard) (fun _ => true)
def fn3 := toFn (α := Heard)
def mu3 := toMu (α := Heard)
noncomputable def raw3 (x1 : (List Heard)) (x2 : Int) (x3 : (List Heard)) : Option (((List Heard) × (Int × ((List Heard) × Unit))) ⊕ ((List Heard) × Unit)) :=
 if (decide (x2 < ((List.length x1 : Nat) : Int))) = true then
  if (decide ((0 : Int) ≤ x2)) = true then
   if (decide (x2 < ((List.length x1 : Nat) : Int))) = true then
    if (decide ((0 : Int) ≤ x2)) = true then
     if (decide (x2 < ((List.length x3 : Nat) : Int))) = true then
      some (.inl (x1, ((IntKind.wrap .i64 (x2 + (1 : Int))), ((List.modify x3 (Int.toNat x2) (fun z => (laws_toHeard (List.getD x1 (Int.toNat x2) ((0 : Int), ((0 : Int), (((0 : Int), ((0 : Int), (([] : List UInt8), (([] : List UInt8), ())))), ((0 : Int), ((0 : Int), ()))))))))), ()))))
     else
      none
    else
     none
   else
    none
  else
   none
 else
  some (.inr (x3, ()))
abbrev wf (x0 : (List Heard)) : Prop := wfA [(.val (.sl 0 (.pair (.int .i64) (.pair (.int .i64) (.pair (.pair (.int .i64) (.pair (.int .i64) (.pair .str (.pair .str .unit)))) (.pair (.int .i64) (.pair (.int .i64) .unit)))))) .f)] (x0, ())
noncomputable def raw (x0 : (List Heard)) : Option (Unit × ((List Heard) × Unit)) :=
 if (decide ((0 : Int) ≤ ((List.length x0 : Nat) : Int))) = true then
  if (decide (((List.length x0 : Nat) : Int) ≤ ((List.length x0 : Nat) : Int))) = true then
   if (decide (((List.length x0 : Nat) : Int) ≤ (4294967296 : Int))) = true then
    if (laws_toHeardS.pre3 (x0, ((0 : Int), ((List.replicate (Int.toNat ((List.length x0 : Nat) : Int)) ((0 : Int), ((0 : Int), (((0 : Int), ((0 : Int), (([] : List UInt8), (([] : List UInt8), ())))), ((0 : Int), ((0 : Int), ())))))), ())))) = true then
     letB (laws_toHeardS.fn3 (x0, ((0 : Int), ((List.replicate (Int.toNat ((List.length x0 : Nat) : Int)) ((0 : Int), ((0 : Int), (((0 : Int), ((0 : Int), (([] : List UInt8), (([] : List UInt8), ())))), ((0 : Int), ((0 : Int), ())))))), ())))) fun v1 =>
     some ((), v1)
    else
     none
   else
    none
  else
   none
 else
  none
theorem ok3 (x1 : List Heard) (x2 : Int) (x3 : List Heard) (hp : pre3 (x1, (x2, (x3, ()))) = true) : Rounds pre3 mu3 fn3 (x1, (x2, (x3, ()))) (raw3 x1 x2 x3) := by
  unfold raw3
  by_cases hlt : x2 < (x1.length : Int)
  · obtain ⟨h1, h2, h3⟩ := tc_facts hp hlt ((0 : Int), ((0 : Int), (((0 : Int), ((0 : Int), (([] : List UInt8), (([] : List UInt8), ())))), ((0 : Int), ((0 : Int), ())))))
    simp only [letB, hlt, h1, h2, h3, decide_true, if_true]
    exact tc_step hp hlt ((0 : Int), ((0 : Int), (((0 : Int), ((0 : Int), (([] : List UInt8), (([] : List UInt8), ())))), ((0 : Int), ((0 : Int), ()))))) rfl
  · rw [if_neg (by simp [hlt])]; exact tc_end hp hlt
theorem eq (x0 : List Heard) (hw : wf x0) (hp : pre x0 = true) : raw x0 = some ((), (laws_toHeardS x0, ())) := by
  have h1 : x0.length ≤ maxLen := hw.1.1
  simp only [pre, Bool.and_eq_true, small_iff] at hp
  unfold raw
  rw [if_pos (by simp), if_pos (by simp), if_pos (by simp; omega), if_pos (show pre3 _ = true from tc_start h1 hp.2 _)]
  rfl
end laws_toHeardS
theorem toHeardS_pre {xs : List Heard} (h : wL w_Heard xs ≤ 16777216) : laws_toHeardS.pre xs = true := by
  have hl := wL_nn w_Heard_nn xs
  simp only [laws_toHeardS.pre, Bool.and_eq_true, small_iff]
  exact ⟨by omega, by simp⟩
def laws_szHeardS (xs : List Heard) (l : Int) : Int := szN (wL w_Heard xs) l
namespace laws_szHeardS
def pre (_ : List Heard) (l : Int) : Bool := decide (0 ≤ l) && decide (l ≤ maxLen)
def pre5 := swPre (α := Heard)
def fn5 := swFn w_Heard
def mu5 := szMu (α := Heard)
noncomputable def raw5 (x1 : (List Heard)) (x2 : Int) (x3 : Int) : Option (((List Heard) × Mark) ⊕ ((Int × Unit) ⊕ (Int × Unit))) :=
 if (decide (x3 < ((List.length x1 : Nat) : Int))) = true then
  if (decide ((0 : Int) ≤ x3)) = true then
   if (decide (x3 < ((List.length x1 : Nat) : Int))) = true then
    if (laws_szHeard.pre (List.getD x1 (Int.toNat x3) ((0 : Int), ((0 : Int), (((0 : Int), ((0 : Int), (([] : List UInt8), (([] : List UInt8), ())))), ((0 : Int), ((0 : Int), ())))))) x2) = true then
     letB (laws_szHeard (List.getD x1 (Int.toNat x3) ((0 : Int), ((0 : Int), (((0 : Int), ((0 : Int), (([] : List UInt8), (([] : List UInt8), ())))), ((0 : Int), ((0 : Int), ())))))) x2) fun v1 =>
     if (decide (v1 < (0 : Int))) = true then
      some (.inr (.inl ((-1 : Int), ())))
     else
      some (.inl (x1, (v1, ((IntKind.wrap .i64 (x3 + (1 : Int))), ()))))
    else
     none
   else
    none
  else
   none
 else
  some (.inr (.inr (x2, ())))
abbrev wf (x0 : (List Heard)) (x1 : Int) : Prop := wfA [(.val (.sl 0 (.pair (.int .i64) (.pair (.int .i64) (.pair (.pair (.int .i64) (.pair (.int .i64) (.pair .str (.pair .str .unit)))) (.pair (.int .i64) (.pair (.int .i64) .unit)))))) .f), (.val (.int .i64) .f)] (x0, (x1, ()))
noncomputable def raw (x0 : (List Heard)) (x1 : Int) : Option (Unit × (Int × Unit)) :=
 if (decide ((IntKind.wrap .i64 (x1 - ((List.length x0 : Nat) : Int))) < (0 : Int))) = true then
  some ((), ((-1 : Int), ()))
 else
  if (laws_szHeardS.pre5 (x0, ((IntKind.wrap .i64 (x1 - ((List.length x0 : Nat) : Int))), ((0 : Int), ())))) = true then
   letB (laws_szHeardS.fn5 (x0, ((IntKind.wrap .i64 (x1 - ((List.length x0 : Nat) : Int))), ((0 : Int), ())))) fun v1 =>
   match v1 with
   | .inl y =>
    some ((), y)
   | .inr y =>
    some ((), y)
  else
   none
theorem ok5 (x1 : List Heard) (x2 x3 : Int) (hp : pre5 (x1, (x2, (x3, ()))) = true) : Rounds pre5 mu5 fn5 (x1, (x2, (x3, ()))) (raw5 x1 x2 x3) := by
  unfold raw5
  by_cases hlt : x3 < (x1.length : Int)
  · obtain ⟨h0, h1, h2⟩ := sw_facts hp
    have q : laws_szHeard.pre (x1.getD x3.toNat ((0 : Int), ((0 : Int), (((0 : Int), ((0 : Int), (([] : List UInt8), (([] : List UInt8), ())))), ((0 : Int), ((0 : Int), ())))))) x2 = true := by simp only [laws_szHeard.pre, Bool.and_eq_true, decide_eq_true_eq]; exact ⟨h1, h2⟩
    simp only [letB, hlt, h0, q, decide_true, if_true]
    by_cases c : x2 - w_Heard (x1.getD x3.toNat ((0 : Int), ((0 : Int), (((0 : Int), ((0 : Int), (([] : List UInt8), (([] : List UInt8), ())))), ((0 : Int), ((0 : Int), ())))))) < 0
    · rw [show laws_szHeard (x1.getD x3.toNat ((0 : Int), ((0 : Int), (((0 : Int), ((0 : Int), (([] : List UInt8), (([] : List UInt8), ())))), ((0 : Int), ((0 : Int), ())))))) x2 = -1 from szN_neg c, if_pos (by decide)]; exact sw_bad w_Heard_nn hp hlt ((0 : Int), ((0 : Int), (((0 : Int), ((0 : Int), (([] : List UInt8), (([] : List UInt8), ())))), ((0 : Int), ((0 : Int), ()))))) c
    · rw [show laws_szHeard (x1.getD x3.toNat ((0 : Int), ((0 : Int), (((0 : Int), ((0 : Int), (([] : List UInt8), (([] : List UInt8), ())))), ((0 : Int), ((0 : Int), ())))))) x2 = x2 - w_Heard (x1.getD x3.toNat ((0 : Int), ((0 : Int), (((0 : Int), ((0 : Int), (([] : List UInt8), (([] : List UInt8), ())))), ((0 : Int), ((0 : Int), ())))))) from szN_pos c, if_neg (by rw [decide_eq_true_eq]; exact c)]; exact sw_good w_Heard_nn hp hlt ((0 : Int), ((0 : Int), (((0 : Int), ((0 : Int), (([] : List UInt8), (([] : List UInt8), ())))), ((0 : Int), ((0 : Int), ()))))) c
  · rw [if_neg (by simp [hlt])]; exact sw_end hp hlt
theorem eq (x0 : List Heard) (x1 : Int) (hw : wf x0 x1) (hp : pre x0 x1 = true) : raw x0 x1 = some ((), (laws_szHeardS x0 x1, ())) := by
  have h1 : x0.length ≤ maxLen := hw.1.1
  simp only [pre, Bool.and_eq_true, decide_eq_true_eq] at hp
  have hM := maxLen_eq
  have hnn := sumW_nn w_Heard_nn x0
  unfold raw
  rw [w64 (n := x1 - (x0.length : Int)) (by omega) (by omega)]
  by_cases c : x1 - (x0.length : Int) < 0
  · rw [if_pos (decide_eq_true c), show laws_szHeardS x0 x1 = -1 from szN_neg (by simp only [wL]; omega)]
  · rw [if_neg (by rw [decide_eq_true_eq]; exact c), if_pos (show pre5 _ = true from sw_start h1 (by omega) (by omega))]
    exact swFn_start x0 x1
end laws_szHeardS
def w_World (x : World) : Int := wL w_Peer x.2.2.1 + wL w_Rpc x.2.2.2.1 + wL w_Cmd x.2.2.2.2.1 + wL w_Int x.2.2.2.2.2.1 + wL w_Heard x.2.2.2.2.2.2.1 + wL w_Cmd x.2.2.2.2.2.2.2.1
noncomputable def laws_eqWorld (a b : World) : Bool := same a b
namespace laws_eqWorld
abbrev wf (x0 : (Setup × (Int × ((List (Int × ((Int × (Int × (Log × (((List Row) × ((List Maker) × ((List Group) × (Int × ((List Int) × ((List Answer) × Unit)))))) × Unit)))) × (Int × ((List Bool) × ((List Int) × ((List Int) × (Int × (((List Row) × ((List Maker) × ((List Group) × (Int × ((List Int) × ((List Answer) × Unit)))))) × (Disk × ((List (Int × (Int × (Int × (Int × (Int × (Int × (Int × ((List Entry) × (Bool × ((List UInt8) × Unit))))))))))) × Unit))))))))))) × ((List (Int × (Int × (Int × (Int × (Int × (Int × (Int × ((List Entry) × (Bool × ((List UInt8) × Unit))))))))))) × ((List Cmd) × ((List Int) × ((List Heard) × ((List Cmd) × Unit))))))))) (x1 : (Setup × (Int × ((List (Int × ((Int × (Int × (Log × (((List Row) × ((List Maker) × ((List Group) × (Int × ((List Int) × ((List Answer) × Unit)))))) × Unit)))) × (Int × ((List Bool) × ((List Int) × ((List Int) × (Int × (((List Row) × ((List Maker) × ((List Group) × (Int × ((List Int) × ((List Answer) × Unit)))))) × (Disk × ((List (Int × (Int × (Int × (Int × (Int × (Int × (Int × ((List Entry) × (Bool × ((List UInt8) × Unit))))))))))) × Unit))))))))))) × ((List (Int × (Int × (Int × (Int × (Int × (Int × (Int × ((List Entry) × (Bool × ((List UInt8) × Unit))))))))))) × ((List Cmd) × ((List Int) × ((List Heard) × ((List Cmd) × Unit))))))))) : Prop := wfA [(.val (.pair (.pair (.int .i64) (.pair (.int .i64) (.pair (.int .i64) (.pair (.int .i64) .unit)))) (.pair (.int .i64) (.pair (.sl 0 (.pair (.int .i64) (.pair (.pair (.int .i64) (.pair (.int .i64) (.pair (.pair (.int .i64) (.pair (.int .i64) (.pair (.sl 0 (.pair (.int .i64) (.pair (.pair (.int .i64) (.pair (.int .i64) (.pair (.int .i64) (.pair (.int .i64) (.pair (.int .i64) (.pair (.int .i64) (.pair .str (.pair .str .unit)))))))) .unit))) .unit))) (.pair (.pair (.sl 0 (.pair (.int .i64) (.pair (.int .i64) (.pair (.sl 0 (.pair (.int .i64) (.pair .str (.pair .str (.pair (.int .i64) (.pair (.int .i64) .unit)))))) .unit)))) (.pair (.sl 0 (.pair (.int .i64) (.pair (.int .i64) (.pair (.int .i64) (.pair (.int .i64) (.pair (.sl 0 (.pair (.int .i64) (.pair (.int .i64) .unit))) .unit)))))) (.pair (.sl 0 (.pair (.int .i64) (.pair (.sl 0 (.int .i64)) (.pair (.sl 0 (.int .i64)) (.pair (.sl 0 (.int .i64)) .unit))))) (.pair (.int .i64) (.pair (.sl 0 (.int .i64)) (.pair (.sl 0 (.pair (.int .i64) (.pair (.int .i64) (.pair .str (.pair .str .unit))))) .unit)))))) .unit)))) (.pair (.int .i64) (.pair (.sl 0 .bool) (.pair (.sl 0 (.int .i64)) (.pair (.sl 0 (.int .i64)) (.pair (.int .i64) (.pair (.pair (.sl 0 (.pair (.int .i64) (.pair (.int .i64) (.pair (.sl 0 (.pair (.int .i64) (.pair .str (.pair .str (.pair (.int .i64) (.pair (.int .i64) .unit)))))) .unit)))) (.pair (.sl 0 (.pair (.int .i64) (.pair (.int .i64) (.pair (.int .i64) (.pair (.int .i64) (.pair (.sl 0 (.pair (.int .i64) (.pair (.int .i64) .unit))) .unit)))))) (.pair (.sl 0 (.pair (.int .i64) (.pair (.sl 0 (.int .i64)) (.pair (.sl 0 (.int .i64)) (.pair (.sl 0 (.int .i64)) .unit))))) (.pair (.int .i64) (.pair (.sl 0 (.int .i64)) (.pair (.sl 0 (.pair (.int .i64) (.pair (.int .i64) (.pair .str (.pair .str .unit))))) .unit)))))) (.pair (.pair (.sl 0 (.int .u8)) (.pair (.int .i64) .unit)) (.pair (.sl 0 (.pair (.int .i64) (.pair (.int .i64) (.pair (.int .i64) (.pair (.int .i64) (.pair (.int .i64) (.pair (.int .i64) (.pair (.int .i64) (.pair (.sl 0 (.pair (.int .i64) (.pair (.pair (.int .i64) (.pair (.int .i64) (.pair (.int .i64) (.pair (.int .i64) (.pair (.int .i64) (.pair (.int .i64) (.pair .str (.pair .str .unit)))))))) .unit))) (.pair .bool (.pair .str .unit))))))))))) .unit))))))))))) (.pair (.sl 0 (.pair (.int .i64) (.pair (.int .i64) (.pair (.int .i64) (.pair (.int .i64) (.pair (.int .i64) (.pair (.int .i64) (.pair (.int .i64) (.pair (.sl 0 (.pair (.int .i64) (.pair (.pair (.int .i64) (.pair (.int .i64) (.pair (.int .i64) (.pair (.int .i64) (.pair (.int .i64) (.pair (.int .i64) (.pair .str (.pair .str .unit)))))))) .unit))) (.pair .bool (.pair .str .unit))))))))))) (.pair (.sl 0 (.pair (.int .i64) (.pair (.int .i64) (.pair (.int .i64) (.pair (.int .i64) (.pair (.int .i64) (.pair (.int .i64) (.pair .str (.pair .str .unit))))))))) (.pair (.sl 0 (.int .i64)) (.pair (.sl 0 (.pair (.int .i64) (.pair (.int .i64) (.pair (.pair (.int .i64) (.pair (.int .i64) (.pair .str (.pair .str .unit)))) (.pair (.int .i64) (.pair (.int .i64) .unit)))))) (.pair (.sl 0 (.pair (.int .i64) (.pair (.int .i64) (.pair (.int .i64) (.pair (.int .i64) (.pair (.int .i64) (.pair (.int .i64) (.pair .str (.pair .str .unit))))))))) .unit)))))))) .f), (.val (.pair (.pair (.int .i64) (.pair (.int .i64) (.pair (.int .i64) (.pair (.int .i64) .unit)))) (.pair (.int .i64) (.pair (.sl 0 (.pair (.int .i64) (.pair (.pair (.int .i64) (.pair (.int .i64) (.pair (.pair (.int .i64) (.pair (.int .i64) (.pair (.sl 0 (.pair (.int .i64) (.pair (.pair (.int .i64) (.pair (.int .i64) (.pair (.int .i64) (.pair (.int .i64) (.pair (.int .i64) (.pair (.int .i64) (.pair .str (.pair .str .unit)))))))) .unit))) .unit))) (.pair (.pair (.sl 0 (.pair (.int .i64) (.pair (.int .i64) (.pair (.sl 0 (.pair (.int .i64) (.pair .str (.pair .str (.pair (.int .i64) (.pair (.int .i64) .unit)))))) .unit)))) (.pair (.sl 0 (.pair (.int .i64) (.pair (.int .i64) (.pair (.int .i64) (.pair (.int .i64) (.pair (.sl 0 (.pair (.int .i64) (.pair (.int .i64) .unit))) .unit)))))) (.pair (.sl 0 (.pair (.int .i64) (.pair (.sl 0 (.int .i64)) (.pair (.sl 0 (.int .i64)) (.pair (.sl 0 (.int .i64)) .unit))))) (.pair (.int .i64) (.pair (.sl 0 (.int .i64)) (.pair (.sl 0 (.pair (.int .i64) (.pair (.int .i64) (.pair .str (.pair .str .unit))))) .unit)))))) .unit)))) (.pair (.int .i64) (.pair (.sl 0 .bool) (.pair (.sl 0 (.int .i64)) (.pair (.sl 0 (.int .i64)) (.pair (.int .i64) (.pair (.pair (.sl 0 (.pair (.int .i64) (.pair (.int .i64) (.pair (.sl 0 (.pair (.int .i64) (.pair .str (.pair .str (.pair (.int .i64) (.pair (.int .i64) .unit)))))) .unit)))) (.pair (.sl 0 (.pair (.int .i64) (.pair (.int .i64) (.pair (.int .i64) (.pair (.int .i64) (.pair (.sl 0 (.pair (.int .i64) (.pair (.int .i64) .unit))) .unit)))))) (.pair (.sl 0 (.pair (.int .i64) (.pair (.sl 0 (.int .i64)) (.pair (.sl 0 (.int .i64)) (.pair (.sl 0 (.int .i64)) .unit))))) (.pair (.int .i64) (.pair (.sl 0 (.int .i64)) (.pair (.sl 0 (.pair (.int .i64) (.pair (.int .i64) (.pair .str (.pair .str .unit))))) .unit)))))) (.pair (.pair (.sl 0 (.int .u8)) (.pair (.int .i64) .unit)) (.pair (.sl 0 (.pair (.int .i64) (.pair (.int .i64) (.pair (.int .i64) (.pair (.int .i64) (.pair (.int .i64) (.pair (.int .i64) (.pair (.int .i64) (.pair (.sl 0 (.pair (.int .i64) (.pair (.pair (.int .i64) (.pair (.int .i64) (.pair (.int .i64) (.pair (.int .i64) (.pair (.int .i64) (.pair (.int .i64) (.pair .str (.pair .str .unit)))))))) .unit))) (.pair .bool (.pair .str .unit))))))))))) .unit))))))))))) (.pair (.sl 0 (.pair (.int .i64) (.pair (.int .i64) (.pair (.int .i64) (.pair (.int .i64) (.pair (.int .i64) (.pair (.int .i64) (.pair (.int .i64) (.pair (.sl 0 (.pair (.int .i64) (.pair (.pair (.int .i64) (.pair (.int .i64) (.pair (.int .i64) (.pair (.int .i64) (.pair (.int .i64) (.pair (.int .i64) (.pair .str (.pair .str .unit)))))))) .unit))) (.pair .bool (.pair .str .unit))))))))))) (.pair (.sl 0 (.pair (.int .i64) (.pair (.int .i64) (.pair (.int .i64) (.pair (.int .i64) (.pair (.int .i64) (.pair (.int .i64) (.pair .str (.pair .str .unit))))))))) (.pair (.sl 0 (.int .i64)) (.pair (.sl 0 (.pair (.int .i64) (.pair (.int .i64) (.pair (.pair (.int .i64) (.pair (.int .i64) (.pair .str (.pair .str .unit)))) (.pair (.int .i64) (.pair (.int .i64) .unit)))))) (.pair (.sl 0 (.pair (.int .i64) (.pair (.int .i64) (.pair (.int .i64) (.pair (.int .i64) (.pair (.int .i64) (.pair (.int .i64) (.pair .str (.pair .str .unit))))))))) .unit)))))))) .f)] (x0, (x1, ()))
noncomputable def raw (x0 : (Setup × (Int × ((List (Int × ((Int × (Int × (Log × (((List Row) × ((List Maker) × ((List Group) × (Int × ((List Int) × ((List Answer) × Unit)))))) × Unit)))) × (Int × ((List Bool) × ((List Int) × ((List Int) × (Int × (((List Row) × ((List Maker) × ((List Group) × (Int × ((List Int) × ((List Answer) × Unit)))))) × (Disk × ((List (Int × (Int × (Int × (Int × (Int × (Int × (Int × ((List Entry) × (Bool × ((List UInt8) × Unit))))))))))) × Unit))))))))))) × ((List (Int × (Int × (Int × (Int × (Int × (Int × (Int × ((List Entry) × (Bool × ((List UInt8) × Unit))))))))))) × ((List Cmd) × ((List Int) × ((List Heard) × ((List Cmd) × Unit))))))))) (x1 : (Setup × (Int × ((List (Int × ((Int × (Int × (Log × (((List Row) × ((List Maker) × ((List Group) × (Int × ((List Int) × ((List Answer) × Unit)))))) × Unit)))) × (Int × ((List Bool) × ((List Int) × ((List Int) × (Int × (((List Row) × ((List Maker) × ((List Group) × (Int × ((List Int) × ((List Answer) × Unit)))))) × (Disk × ((List (Int × (Int × (Int × (Int × (Int × (Int × (Int × ((List Entry) × (Bool × ((List UInt8) × Unit))))))))))) × Unit))))))))))) × ((List (Int × (Int × (Int × (Int × (Int × (Int × (Int × ((List Entry) × (Bool × ((List UInt8) × Unit))))))))))) × ((List Cmd) × ((List Int) × ((List Heard) × ((List Cmd) × Unit))))))))) : Option (Unit × (Bool × Unit)) :=
 letB (laws_eqSetup x0.1 x1.1) fun v1 =>
 if (!v1) = true then
  some ((), (false, ()))
 else
  if (!(decide (x0.2.1 = x1.2.1))) = true then
   some ((), (false, ()))
  else
   letB (laws_eqPeerS x0.2.2.1 x1.2.2.1) fun v2 =>
   if (!v2) = true then
    some ((), (false, ()))
   else
    letB (laws_eqRpcS x0.2.2.2.1 x1.2.2.2.1) fun v3 =>
    if (!v3) = true then
     some ((), (false, ()))
    else
     letB (laws_eqCmdS x0.2.2.2.2.1 x1.2.2.2.2.1) fun v4 =>
     if (!v4) = true then
      some ((), (false, ()))
     else
      letB (laws_eqIntS x0.2.2.2.2.2.1 x1.2.2.2.2.2.1) fun v5 =>
      if (!v5) = true then
       some ((), (false, ()))
      else
       letB (laws_eqHeardS x0.2.2.2.2.2.2.1 x1.2.2.2.2.2.2.1) fun v6 =>
       if (!v6) = true then
        some ((), (false, ()))
       else
        letB (laws_eqCmdS x0.2.2.2.2.2.2.2.1 x1.2.2.2.2.2.2.2.1) fun v7 =>
        if (!v7) = true then
         some ((), (false, ()))
        else
         some ((), (true, ()))
theorem eq (x0 x1 : World) (_ : wf x0 x1) : raw x0 x1 = some ((), (laws_eqWorld x0 x1, ())) := by
  unfold raw laws_eqWorld
  try simp only [letB]
  by_cases c0 : x0.1 = x1.1
  case neg => rw [if_pos (by rw [laws_eqSetup, same_false.2 c0]; rfl), same_false.2 (fun h => c0 (congrArg (fun z : World => z.1) h))]
  rw [if_neg (by rw [laws_eqSetup, same_true.2 c0]; simp)]
  by_cases c1 : x0.2.1 = x1.2.1
  case neg => rw [if_pos (by simp [c1]), same_false.2 (fun h => c1 (congrArg (fun z : World => z.2.1) h))]
  rw [if_neg (by simp [c1])]
  by_cases c2 : x0.2.2.1 = x1.2.2.1
  case neg => rw [if_pos (by rw [laws_eqPeerS, same_false.2 c2]; rfl), same_false.2 (fun h => c2 (congrArg (fun z : World => z.2.2.1) h))]
  rw [if_neg (by rw [laws_eqPeerS, same_true.2 c2]; simp)]
  by_cases c3 : x0.2.2.2.1 = x1.2.2.2.1
  case neg => rw [if_pos (by rw [laws_eqRpcS, same_false.2 c3]; rfl), same_false.2 (fun h => c3 (congrArg (fun z : World => z.2.2.2.1) h))]
  rw [if_neg (by rw [laws_eqRpcS, same_true.2 c3]; simp)]
  by_cases c4 : x0.2.2.2.2.1 = x1.2.2.2.2.1
  case neg => rw [if_pos (by rw [laws_eqCmdS, same_false.2 c4]; rfl), same_false.2 (fun h => c4 (congrArg (fun z : World => z.2.2.2.2.1) h))]
  rw [if_neg (by rw [laws_eqCmdS, same_true.2 c4]; simp)]
  by_cases c5 : x0.2.2.2.2.2.1 = x1.2.2.2.2.2.1
  case neg => rw [if_pos (by rw [laws_eqIntS, same_false.2 c5]; rfl), same_false.2 (fun h => c5 (congrArg (fun z : World => z.2.2.2.2.2.1) h))]
  rw [if_neg (by rw [laws_eqIntS, same_true.2 c5]; simp)]
  by_cases c6 : x0.2.2.2.2.2.2.1 = x1.2.2.2.2.2.2.1
  case neg => rw [if_pos (by rw [laws_eqHeardS, same_false.2 c6]; rfl), same_false.2 (fun h => c6 (congrArg (fun z : World => z.2.2.2.2.2.2.1) h))]
  rw [if_neg (by rw [laws_eqHeardS, same_true.2 c6]; simp)]
  by_cases c7 : x0.2.2.2.2.2.2.2.1 = x1.2.2.2.2.2.2.2.1
  case neg => rw [if_pos (by rw [laws_eqCmdS, same_false.2 c7]; rfl), same_false.2 (fun h => c7 (congrArg (fun z : World => z.2.2.2.2.2.2.2.1) h))]
  rw [if_neg (by rw [laws_eqCmdS, same_true.2 c7]; simp)]
  rw [same_true.2 (Prod.ext c0 (Prod.ext c1 (Prod.ext c2 (Prod.ext c3 (Prod.ext c4 (Prod.ext c5 (Prod.ext c6 (Prod.ext c7 rfl))))))))]
end laws_eqWorld
def laws_toWorld (x : World) : World := x
namespace laws_toWorld
def pre (x : World) : Bool := laws_toPeerS.pre x.2.2.1 && laws_toRpcS.pre x.2.2.2.1 && laws_toCmdS.pre x.2.2.2.2.1 && laws_toIntS.pre x.2.2.2.2.2.1 && laws_toHeardS.pre x.2.2.2.2.2.2.1 && laws_toCmdS.pre x.2.2.2.2.2.2.2.1
abbrev wf (x0 : (Setup × (Int × ((List (Int × ((Int × (Int × (Log × (((List Row) × ((List Maker) × ((List Group) × (Int × ((List Int) × ((List Answer) × Unit)))))) × Unit)))) × (Int × ((List Bool) × ((List Int) × ((List Int) × (Int × (((List Row) × ((List Maker) × ((List Group) × (Int × ((List Int) × ((List Answer) × Unit)))))) × (Disk × ((List (Int × (Int × (Int × (Int × (Int × (Int × (Int × ((List Entry) × (Bool × ((List UInt8) × Unit))))))))))) × Unit))))))))))) × ((List (Int × (Int × (Int × (Int × (Int × (Int × (Int × ((List Entry) × (Bool × ((List UInt8) × Unit))))))))))) × ((List Cmd) × ((List Int) × ((List Heard) × ((List Cmd) × Unit))))))))) : Prop := wfA [(.val (.pair (.pair (.int .i64) (.pair (.int .i64) (.pair (.int .i64) (.pair (.int .i64) .unit)))) (.pair (.int .i64) (.pair (.sl 0 (.pair (.int .i64) (.pair (.pair (.int .i64) (.pair (.int .i64) (.pair (.pair (.int .i64) (.pair (.int .i64) (.pair (.sl 0 (.pair (.int .i64) (.pair (.pair (.int .i64) (.pair (.int .i64) (.pair (.int .i64) (.pair (.int .i64) (.pair (.int .i64) (.pair (.int .i64) (.pair .str (.pair .str .unit)))))))) .unit))) .unit))) (.pair (.pair (.sl 0 (.pair (.int .i64) (.pair (.int .i64) (.pair (.sl 0 (.pair (.int .i64) (.pair .str (.pair .str (.pair (.int .i64) (.pair (.int .i64) .unit)))))) .unit)))) (.pair (.sl 0 (.pair (.int .i64) (.pair (.int .i64) (.pair (.int .i64) (.pair (.int .i64) (.pair (.sl 0 (.pair (.int .i64) (.pair (.int .i64) .unit))) .unit)))))) (.pair (.sl 0 (.pair (.int .i64) (.pair (.sl 0 (.int .i64)) (.pair (.sl 0 (.int .i64)) (.pair (.sl 0 (.int .i64)) .unit))))) (.pair (.int .i64) (.pair (.sl 0 (.int .i64)) (.pair (.sl 0 (.pair (.int .i64) (.pair (.int .i64) (.pair .str (.pair .str .unit))))) .unit)))))) .unit)))) (.pair (.int .i64) (.pair (.sl 0 .bool) (.pair (.sl 0 (.int .i64)) (.pair (.sl 0 (.int .i64)) (.pair (.int .i64) (.pair (.pair (.sl 0 (.pair (.int .i64) (.pair (.int .i64) (.pair (.sl 0 (.pair (.int .i64) (.pair .str (.pair .str (.pair (.int .i64) (.pair (.int .i64) .unit)))))) .unit)))) (.pair (.sl 0 (.pair (.int .i64) (.pair (.int .i64) (.pair (.int .i64) (.pair (.int .i64) (.pair (.sl 0 (.pair (.int .i64) (.pair (.int .i64) .unit))) .unit)))))) (.pair (.sl 0 (.pair (.int .i64) (.pair (.sl 0 (.int .i64)) (.pair (.sl 0 (.int .i64)) (.pair (.sl 0 (.int .i64)) .unit))))) (.pair (.int .i64) (.pair (.sl 0 (.int .i64)) (.pair (.sl 0 (.pair (.int .i64) (.pair (.int .i64) (.pair .str (.pair .str .unit))))) .unit)))))) (.pair (.pair (.sl 0 (.int .u8)) (.pair (.int .i64) .unit)) (.pair (.sl 0 (.pair (.int .i64) (.pair (.int .i64) (.pair (.int .i64) (.pair (.int .i64) (.pair (.int .i64) (.pair (.int .i64) (.pair (.int .i64) (.pair (.sl 0 (.pair (.int .i64) (.pair (.pair (.int .i64) (.pair (.int .i64) (.pair (.int .i64) (.pair (.int .i64) (.pair (.int .i64) (.pair (.int .i64) (.pair .str (.pair .str .unit)))))))) .unit))) (.pair .bool (.pair .str .unit))))))))))) .unit))))))))))) (.pair (.sl 0 (.pair (.int .i64) (.pair (.int .i64) (.pair (.int .i64) (.pair (.int .i64) (.pair (.int .i64) (.pair (.int .i64) (.pair (.int .i64) (.pair (.sl 0 (.pair (.int .i64) (.pair (.pair (.int .i64) (.pair (.int .i64) (.pair (.int .i64) (.pair (.int .i64) (.pair (.int .i64) (.pair (.int .i64) (.pair .str (.pair .str .unit)))))))) .unit))) (.pair .bool (.pair .str .unit))))))))))) (.pair (.sl 0 (.pair (.int .i64) (.pair (.int .i64) (.pair (.int .i64) (.pair (.int .i64) (.pair (.int .i64) (.pair (.int .i64) (.pair .str (.pair .str .unit))))))))) (.pair (.sl 0 (.int .i64)) (.pair (.sl 0 (.pair (.int .i64) (.pair (.int .i64) (.pair (.pair (.int .i64) (.pair (.int .i64) (.pair .str (.pair .str .unit)))) (.pair (.int .i64) (.pair (.int .i64) .unit)))))) (.pair (.sl 0 (.pair (.int .i64) (.pair (.int .i64) (.pair (.int .i64) (.pair (.int .i64) (.pair (.int .i64) (.pair (.int .i64) (.pair .str (.pair .str .unit))))))))) .unit)))))))) .f)] (x0, ())
noncomputable def raw (x0 : (Setup × (Int × ((List (Int × ((Int × (Int × (Log × (((List Row) × ((List Maker) × ((List Group) × (Int × ((List Int) × ((List Answer) × Unit)))))) × Unit)))) × (Int × ((List Bool) × ((List Int) × ((List Int) × (Int × (((List Row) × ((List Maker) × ((List Group) × (Int × ((List Int) × ((List Answer) × Unit)))))) × (Disk × ((List (Int × (Int × (Int × (Int × (Int × (Int × (Int × ((List Entry) × (Bool × ((List UInt8) × Unit))))))))))) × Unit))))))))))) × ((List (Int × (Int × (Int × (Int × (Int × (Int × (Int × ((List Entry) × (Bool × ((List UInt8) × Unit))))))))))) × ((List Cmd) × ((List Int) × ((List Heard) × ((List Cmd) × Unit))))))))) : Option (Unit × ((Setup × (Int × ((List (Int × ((Int × (Int × (Log × (((List Row) × ((List Maker) × ((List Group) × (Int × ((List Int) × ((List Answer) × Unit)))))) × Unit)))) × (Int × ((List Bool) × ((List Int) × ((List Int) × (Int × (((List Row) × ((List Maker) × ((List Group) × (Int × ((List Int) × ((List Answer) × Unit)))))) × (Disk × ((List (Int × (Int × (Int × (Int × (Int × (Int × (Int × ((List Entry) × (Bool × ((List UInt8) × Unit))))))))))) × Unit))))))))))) × ((List (Int × (Int × (Int × (Int × (Int × (Int × (Int × ((List Entry) × (Bool × ((List UInt8) × Unit))))))))))) × ((List Cmd) × ((List Int) × ((List Heard) × ((List Cmd) × Unit)))))))) × Unit)) :=
 if (laws_toPeerS.pre x0.2.2.1) = true then
  if (laws_toRpcS.pre x0.2.2.2.1) = true then
   if (laws_toCmdS.pre x0.2.2.2.2.1) = true then
    if (laws_toIntS.pre x0.2.2.2.2.2.1) = true then
     if (laws_toHeardS.pre x0.2.2.2.2.2.2.1) = true then
      if (laws_toCmdS.pre x0.2.2.2.2.2.2.2.1) = true then
       letB (laws_toSetup x0.1) fun v1 =>
       letB (laws_toPeerS x0.2.2.1) fun v2 =>
       letB (laws_toRpcS x0.2.2.2.1) fun v3 =>
       letB (laws_toCmdS x0.2.2.2.2.1) fun v4 =>
       letB (laws_toIntS x0.2.2.2.2.2.1) fun v5 =>
       letB (laws_toHeardS x0.2.2.2.2.2.2.1) fun v6 =>
       letB (laws_toCmdS x0.2.2.2.2.2.2.2.1) fun v7 =>
       some ((), ((v1, (x0.2.1, (v2, (v3, (v4, (v5, (v6, (v7, ())))))))), ()))
      else
       none
     else
      none
    else
     none
   else
    none
  else
   none
 else
  none
theorem eq (x0 : World) (_ : wf x0) (hp : pre x0 = true) : raw x0 = some ((), (laws_toWorld x0, ())) := by
  simp only [pre, Bool.and_eq_true] at hp
  unfold raw
  try simp only [letB]
  rw [if_pos hp.1.1.1.1.1, if_pos hp.1.1.1.1.2, if_pos hp.1.1.1.2, if_pos hp.1.1.2, if_pos hp.1.2, if_pos hp.2]
  rfl
end laws_toWorld
theorem toWorld_pre {x : World} (h : w_World x ≤ 16777216) : laws_toWorld.pre x = true := by
  simp only [w_World] at h
  have n2 := wL_nn w_Peer_nn x.2.2.1
  have n3 := wL_nn w_Rpc_nn x.2.2.2.1
  have n4 := wL_nn w_Cmd_nn x.2.2.2.2.1
  have n5 := wL_nn w_Int_nn x.2.2.2.2.2.1
  have n6 := wL_nn w_Heard_nn x.2.2.2.2.2.2.1
  have n7 := wL_nn w_Cmd_nn x.2.2.2.2.2.2.2.1
  simp only [laws_toWorld.pre, Bool.and_eq_true]
  exact ⟨⟨⟨⟨⟨toPeerS_pre (by omega), toRpcS_pre (by omega)⟩, toCmdS_pre (by omega)⟩, toIntS_pre (by omega)⟩, toHeardS_pre (by omega)⟩, toCmdS_pre (by omega)⟩
def laws_szWorld (x : World) (l : Int) : Int := szN (w_World x) l
namespace laws_szWorld
def pre (_ : World) (l : Int) : Bool := decide (0 ≤ l) && decide (l ≤ maxLen)
abbrev wf (x0 : (Setup × (Int × ((List (Int × ((Int × (Int × (Log × (((List Row) × ((List Maker) × ((List Group) × (Int × ((List Int) × ((List Answer) × Unit)))))) × Unit)))) × (Int × ((List Bool) × ((List Int) × ((List Int) × (Int × (((List Row) × ((List Maker) × ((List Group) × (Int × ((List Int) × ((List Answer) × Unit)))))) × (Disk × ((List (Int × (Int × (Int × (Int × (Int × (Int × (Int × ((List Entry) × (Bool × ((List UInt8) × Unit))))))))))) × Unit))))))))))) × ((List (Int × (Int × (Int × (Int × (Int × (Int × (Int × ((List Entry) × (Bool × ((List UInt8) × Unit))))))))))) × ((List Cmd) × ((List Int) × ((List Heard) × ((List Cmd) × Unit))))))))) (x1 : Int) : Prop := wfA [(.val (.pair (.pair (.int .i64) (.pair (.int .i64) (.pair (.int .i64) (.pair (.int .i64) .unit)))) (.pair (.int .i64) (.pair (.sl 0 (.pair (.int .i64) (.pair (.pair (.int .i64) (.pair (.int .i64) (.pair (.pair (.int .i64) (.pair (.int .i64) (.pair (.sl 0 (.pair (.int .i64) (.pair (.pair (.int .i64) (.pair (.int .i64) (.pair (.int .i64) (.pair (.int .i64) (.pair (.int .i64) (.pair (.int .i64) (.pair .str (.pair .str .unit)))))))) .unit))) .unit))) (.pair (.pair (.sl 0 (.pair (.int .i64) (.pair (.int .i64) (.pair (.sl 0 (.pair (.int .i64) (.pair .str (.pair .str (.pair (.int .i64) (.pair (.int .i64) .unit)))))) .unit)))) (.pair (.sl 0 (.pair (.int .i64) (.pair (.int .i64) (.pair (.int .i64) (.pair (.int .i64) (.pair (.sl 0 (.pair (.int .i64) (.pair (.int .i64) .unit))) .unit)))))) (.pair (.sl 0 (.pair (.int .i64) (.pair (.sl 0 (.int .i64)) (.pair (.sl 0 (.int .i64)) (.pair (.sl 0 (.int .i64)) .unit))))) (.pair (.int .i64) (.pair (.sl 0 (.int .i64)) (.pair (.sl 0 (.pair (.int .i64) (.pair (.int .i64) (.pair .str (.pair .str .unit))))) .unit)))))) .unit)))) (.pair (.int .i64) (.pair (.sl 0 .bool) (.pair (.sl 0 (.int .i64)) (.pair (.sl 0 (.int .i64)) (.pair (.int .i64) (.pair (.pair (.sl 0 (.pair (.int .i64) (.pair (.int .i64) (.pair (.sl 0 (.pair (.int .i64) (.pair .str (.pair .str (.pair (.int .i64) (.pair (.int .i64) .unit)))))) .unit)))) (.pair (.sl 0 (.pair (.int .i64) (.pair (.int .i64) (.pair (.int .i64) (.pair (.int .i64) (.pair (.sl 0 (.pair (.int .i64) (.pair (.int .i64) .unit))) .unit)))))) (.pair (.sl 0 (.pair (.int .i64) (.pair (.sl 0 (.int .i64)) (.pair (.sl 0 (.int .i64)) (.pair (.sl 0 (.int .i64)) .unit))))) (.pair (.int .i64) (.pair (.sl 0 (.int .i64)) (.pair (.sl 0 (.pair (.int .i64) (.pair (.int .i64) (.pair .str (.pair .str .unit))))) .unit)))))) (.pair (.pair (.sl 0 (.int .u8)) (.pair (.int .i64) .unit)) (.pair (.sl 0 (.pair (.int .i64) (.pair (.int .i64) (.pair (.int .i64) (.pair (.int .i64) (.pair (.int .i64) (.pair (.int .i64) (.pair (.int .i64) (.pair (.sl 0 (.pair (.int .i64) (.pair (.pair (.int .i64) (.pair (.int .i64) (.pair (.int .i64) (.pair (.int .i64) (.pair (.int .i64) (.pair (.int .i64) (.pair .str (.pair .str .unit)))))))) .unit))) (.pair .bool (.pair .str .unit))))))))))) .unit))))))))))) (.pair (.sl 0 (.pair (.int .i64) (.pair (.int .i64) (.pair (.int .i64) (.pair (.int .i64) (.pair (.int .i64) (.pair (.int .i64) (.pair (.int .i64) (.pair (.sl 0 (.pair (.int .i64) (.pair (.pair (.int .i64) (.pair (.int .i64) (.pair (.int .i64) (.pair (.int .i64) (.pair (.int .i64) (.pair (.int .i64) (.pair .str (.pair .str .unit)))))))) .unit))) (.pair .bool (.pair .str .unit))))))))))) (.pair (.sl 0 (.pair (.int .i64) (.pair (.int .i64) (.pair (.int .i64) (.pair (.int .i64) (.pair (.int .i64) (.pair (.int .i64) (.pair .str (.pair .str .unit))))))))) (.pair (.sl 0 (.int .i64)) (.pair (.sl 0 (.pair (.int .i64) (.pair (.int .i64) (.pair (.pair (.int .i64) (.pair (.int .i64) (.pair .str (.pair .str .unit)))) (.pair (.int .i64) (.pair (.int .i64) .unit)))))) (.pair (.sl 0 (.pair (.int .i64) (.pair (.int .i64) (.pair (.int .i64) (.pair (.int .i64) (.pair (.int .i64) (.pair (.int .i64) (.pair .str (.pair .str .unit))))))))) .unit)))))))) .f), (.val (.int .i64) .f)] (x0, (x1, ()))
noncomputable def raw (x0 : (Setup × (Int × ((List (Int × ((Int × (Int × (Log × (((List Row) × ((List Maker) × ((List Group) × (Int × ((List Int) × ((List Answer) × Unit)))))) × Unit)))) × (Int × ((List Bool) × ((List Int) × ((List Int) × (Int × (((List Row) × ((List Maker) × ((List Group) × (Int × ((List Int) × ((List Answer) × Unit)))))) × (Disk × ((List (Int × (Int × (Int × (Int × (Int × (Int × (Int × ((List Entry) × (Bool × ((List UInt8) × Unit))))))))))) × Unit))))))))))) × ((List (Int × (Int × (Int × (Int × (Int × (Int × (Int × ((List Entry) × (Bool × ((List UInt8) × Unit))))))))))) × ((List Cmd) × ((List Int) × ((List Heard) × ((List Cmd) × Unit))))))))) (x1 : Int) : Option (Unit × (Int × Unit)) :=
 if (laws_szPeerS.pre x0.2.2.1 x1) = true then
  letB (laws_szPeerS x0.2.2.1 x1) fun v1 =>
  if (decide (v1 < (0 : Int))) = true then
   some ((), ((-1 : Int), ()))
  else
   if (laws_szRpcS.pre x0.2.2.2.1 v1) = true then
    letB (laws_szRpcS x0.2.2.2.1 v1) fun v2 =>
    if (decide (v2 < (0 : Int))) = true then
     some ((), ((-1 : Int), ()))
    else
     if (laws_szCmdS.pre x0.2.2.2.2.1 v2) = true then
      letB (laws_szCmdS x0.2.2.2.2.1 v2) fun v3 =>
      if (decide (v3 < (0 : Int))) = true then
       some ((), ((-1 : Int), ()))
      else
       if (laws_szIntS.pre x0.2.2.2.2.2.1 v3) = true then
        letB (laws_szIntS x0.2.2.2.2.2.1 v3) fun v4 =>
        if (decide (v4 < (0 : Int))) = true then
         some ((), ((-1 : Int), ()))
        else
         if (laws_szHeardS.pre x0.2.2.2.2.2.2.1 v4) = true then
          letB (laws_szHeardS x0.2.2.2.2.2.2.1 v4) fun v5 =>
          if (decide (v5 < (0 : Int))) = true then
           some ((), ((-1 : Int), ()))
          else
           if (laws_szCmdS.pre x0.2.2.2.2.2.2.2.1 v5) = true then
            letB (laws_szCmdS x0.2.2.2.2.2.2.2.1 v5) fun v6 =>
            if (decide (v6 < (0 : Int))) = true then
             some ((), ((-1 : Int), ()))
            else
             some ((), (v6, ()))
           else
            none
         else
          none
       else
        none
     else
      none
   else
    none
 else
  none
theorem eq (x0 : World) (x1 : Int) (hw : wf x0 x1) (hp : pre x0 x1 = true) : raw x0 x1 = some ((), (laws_szWorld x0 x1, ())) := by
  simp only [pre, Bool.and_eq_true, decide_eq_true_eq] at hp
  have hM := maxLen_eq
  have t2 := wL_nn w_Peer_nn x0.2.2.1
  have t3 := wL_nn w_Rpc_nn x0.2.2.2.1
  have t4 := wL_nn w_Cmd_nn x0.2.2.2.2.1
  have t5 := wL_nn w_Int_nn x0.2.2.2.2.2.1
  have t6 := wL_nn w_Heard_nn x0.2.2.2.2.2.2.1
  have t7 := wL_nn w_Cmd_nn x0.2.2.2.2.2.2.2.1
  unfold raw
  try simp only [letB]
  rw [if_pos (show laws_szPeerS.pre _ _ = true by simp only [laws_szPeerS.pre, Bool.and_eq_true, decide_eq_true_eq]; omega)]
  by_cases c2 : x1 - wL w_Peer x0.2.2.1 < 0
  · rw [show laws_szPeerS x0.2.2.1 (x1) = -1 from szN_neg c2, if_pos (by decide), show laws_szWorld x0 x1 = -1 from szN_neg (by simp only [w_World]; omega)]
  rw [show laws_szPeerS x0.2.2.1 (x1) = x1 - wL w_Peer x0.2.2.1 from szN_pos c2, if_neg (by rw [decide_eq_true_eq]; exact c2)]
  rw [if_pos (show laws_szRpcS.pre _ _ = true by simp only [laws_szRpcS.pre, Bool.and_eq_true, decide_eq_true_eq]; omega)]
  by_cases c3 : x1 - wL w_Peer x0.2.2.1 - wL w_Rpc x0.2.2.2.1 < 0
  · rw [show laws_szRpcS x0.2.2.2.1 (x1 - wL w_Peer x0.2.2.1) = -1 from szN_neg c3, if_pos (by decide), show laws_szWorld x0 x1 = -1 from szN_neg (by simp only [w_World]; omega)]
  rw [show laws_szRpcS x0.2.2.2.1 (x1 - wL w_Peer x0.2.2.1) = x1 - wL w_Peer x0.2.2.1 - wL w_Rpc x0.2.2.2.1 from szN_pos c3, if_neg (by rw [decide_eq_true_eq]; exact c3)]
  rw [if_pos (show laws_szCmdS.pre _ _ = true by simp only [laws_szCmdS.pre, Bool.and_eq_true, decide_eq_true_eq]; omega)]
  by_cases c4 : x1 - wL w_Peer x0.2.2.1 - wL w_Rpc x0.2.2.2.1 - wL w_Cmd x0.2.2.2.2.1 < 0
  · rw [show laws_szCmdS x0.2.2.2.2.1 (x1 - wL w_Peer x0.2.2.1 - wL w_Rpc x0.2.2.2.1) = -1 from szN_neg c4, if_pos (by decide), show laws_szWorld x0 x1 = -1 from szN_neg (by simp only [w_World]; omega)]
  rw [show laws_szCmdS x0.2.2.2.2.1 (x1 - wL w_Peer x0.2.2.1 - wL w_Rpc x0.2.2.2.1) = x1 - wL w_Peer x0.2.2.1 - wL w_Rpc x0.2.2.2.1 - wL w_Cmd x0.2.2.2.2.1 from szN_pos c4, if_neg (by rw [decide_eq_true_eq]; exact c4)]
  rw [if_pos (show laws_szIntS.pre _ _ = true by simp only [laws_szIntS.pre, Bool.and_eq_true, decide_eq_true_eq]; omega)]
  by_cases c5 : x1 - wL w_Peer x0.2.2.1 - wL w_Rpc x0.2.2.2.1 - wL w_Cmd x0.2.2.2.2.1 - wL w_Int x0.2.2.2.2.2.1 < 0
  · rw [show laws_szIntS x0.2.2.2.2.2.1 (x1 - wL w_Peer x0.2.2.1 - wL w_Rpc x0.2.2.2.1 - wL w_Cmd x0.2.2.2.2.1) = -1 from szN_neg c5, if_pos (by decide), show laws_szWorld x0 x1 = -1 from szN_neg (by simp only [w_World]; omega)]
  rw [show laws_szIntS x0.2.2.2.2.2.1 (x1 - wL w_Peer x0.2.2.1 - wL w_Rpc x0.2.2.2.1 - wL w_Cmd x0.2.2.2.2.1) = x1 - wL w_Peer x0.2.2.1 - wL w_Rpc x0.2.2.2.1 - wL w_Cmd x0.2.2.2.2.1 - wL w_Int x0.2.2.2.2.2.1 from szN_pos c5, if_neg (by rw [decide_eq_true_eq]; exact c5)]
  rw [if_pos (show laws_szHeardS.pre _ _ = true by simp only [laws_szHeardS.pre, Bool.and_eq_true, decide_eq_true_eq]; omega)]
  by_cases c6 : x1 - wL w_Peer x0.2.2.1 - wL w_Rpc x0.2.2.2.1 - wL w_Cmd x0.2.2.2.2.1 - wL w_Int x0.2.2.2.2.2.1 - wL w_Heard x0.2.2.2.2.2.2.1 < 0
  · rw [show laws_szHeardS x0.2.2.2.2.2.2.1 (x1 - wL w_Peer x0.2.2.1 - wL w_Rpc x0.2.2.2.1 - wL w_Cmd x0.2.2.2.2.1 - wL w_Int x0.2.2.2.2.2.1) = -1 from szN_neg c6, if_pos (by decide), show laws_szWorld x0 x1 = -1 from szN_neg (by simp only [w_World]; omega)]
  rw [show laws_szHeardS x0.2.2.2.2.2.2.1 (x1 - wL w_Peer x0.2.2.1 - wL w_Rpc x0.2.2.2.1 - wL w_Cmd x0.2.2.2.2.1 - wL w_Int x0.2.2.2.2.2.1) = x1 - wL w_Peer x0.2.2.1 - wL w_Rpc x0.2.2.2.1 - wL w_Cmd x0.2.2.2.2.1 - wL w_Int x0.2.2.2.2.2.1 - wL w_Heard x0.2.2.2.2.2.2.1 from szN_pos c6, if_neg (by rw [decide_eq_true_eq]; exact c6)]
  rw [if_pos (show laws_szCmdS.pre _ _ = true by simp only [laws_szCmdS.pre, Bool.and_eq_true, decide_eq_true_eq]; omega)]
  by_cases c7 : x1 - wL w_Peer x0.2.2.1 - wL w_Rpc x0.2.2.2.1 - wL w_Cmd x0.2.2.2.2.1 - wL w_Int x0.2.2.2.2.2.1 - wL w_Heard x0.2.2.2.2.2.2.1 - wL w_Cmd x0.2.2.2.2.2.2.2.1 < 0
  · rw [show laws_szCmdS x0.2.2.2.2.2.2.2.1 (x1 - wL w_Peer x0.2.2.1 - wL w_Rpc x0.2.2.2.1 - wL w_Cmd x0.2.2.2.2.1 - wL w_Int x0.2.2.2.2.2.1 - wL w_Heard x0.2.2.2.2.2.2.1) = -1 from szN_neg c7, if_pos (by decide), show laws_szWorld x0 x1 = -1 from szN_neg (by simp only [w_World]; omega)]
  rw [show laws_szCmdS x0.2.2.2.2.2.2.2.1 (x1 - wL w_Peer x0.2.2.1 - wL w_Rpc x0.2.2.2.1 - wL w_Cmd x0.2.2.2.2.1 - wL w_Int x0.2.2.2.2.2.1 - wL w_Heard x0.2.2.2.2.2.2.1) = x1 - wL w_Peer x0.2.2.1 - wL w_Rpc x0.2.2.2.1 - wL w_Cmd x0.2.2.2.2.1 - wL w_Int x0.2.2.2.2.2.1 - wL w_Heard x0.2.2.2.2.2.2.1 - wL w_Cmd x0.2.2.2.2.2.2.2.1 from szN_pos c7, if_neg (by rw [decide_eq_true_eq]; exact c7)]
  rw [show laws_szWorld x0 x1 = x1 - wL w_Peer x0.2.2.1 - wL w_Rpc x0.2.2.2.1 - wL w_Cmd x0.2.2.2.2.1 - wL w_Int x0.2.2.2.2.2.1 - wL w_Heard x0.2.2.2.2.2.2.1 - wL w_Cmd x0.2.2.2.2.2.2.2.1 from by rw [laws_szWorld, szN_pos (by simp only [w_World]; omega)]; simp only [w_World]; omega]
end laws_szWorld
abbrev H0 : Heard := ((0 : Int), ((0 : Int), (((0 : Int), ((0 : Int), (([] : List UInt8), (([] : List UInt8), ())))), ((0 : Int), ((0 : Int), ())))))
def slices_IndexFunc_Heard (xs : List Heard) (p : (Heard → Bool) × (Heard → Bool)) : Int := idxF p.2 xs 0
namespace slices_IndexFunc_Heard
def pre (xs : List Heard) (p : (Heard → Bool) × (Heard → Bool)) : Bool := xs.all p.1
def pre2 := ixPre (α := Heard)
def fn2 := ixFn (α := Heard)
def mu2 := ixMu (α := Heard)
noncomputable def raw2 (x1 : (List Heard)) (x2 : (Heard → Bool)) (x3 : (Heard → Bool)) (x4 : Int) (x5 : Int) : Option (((List Heard) × ((Heard → Bool) × ((Heard → Bool) × Mark))) ⊕ ((Int × Unit) ⊕ Unit)) :=
 if (decide (x5 < x4)) = true then
  if (decide ((0 : Int) ≤ x5)) = true then
   if (decide (x5 < ((List.length x1 : Nat) : Int))) = true then
    if (x2 (List.getD x1 (Int.toNat x5) ((0 : Int), ((0 : Int), (((0 : Int), ((0 : Int), (([] : List UInt8), (([] : List UInt8), ())))), ((0 : Int), ((0 : Int), ()))))))) = true then
     if (x3 (List.getD x1 (Int.toNat x5) ((0 : Int), ((0 : Int), (((0 : Int), ((0 : Int), (([] : List UInt8), (([] : List UInt8), ())))), ((0 : Int), ((0 : Int), ()))))))) = true then
      some (.inr (.inl (x5, ())))
     else
      some (.inl (x1, (x2, (x3, (x4, ((IntKind.wrap .i64 (x5 + (1 : Int))), ()))))))
    else
     none
   else
    none
  else
   none
 else
  some (.inr (.inr ()))
abbrev wf (x0 : (List Heard)) (x1 : ((Heard → Bool) × (Heard → Bool))) : Prop := wfA [(.val (.sl 0 (.pair (.int .i64) (.pair (.int .i64) (.pair (.pair (.int .i64) (.pair (.int .i64) (.pair .str (.pair .str .unit)))) (.pair (.int .i64) (.pair (.int .i64) .unit)))))) .f), (.fn (.pair (.int .i64) (.pair (.int .i64) (.pair (.pair (.int .i64) (.pair (.int .i64) (.pair .str (.pair .str .unit)))) (.pair (.int .i64) (.pair (.int .i64) .unit))))) .bool)] (x0, (x1, ()))
noncomputable def raw (x0 : (List Heard)) (x1 : ((Heard → Bool) × (Heard → Bool))) : Option (Unit × (Int × Unit)) :=
 if (slices_IndexFunc_Heard.pre2 (x0, (x1.1, (x1.2, (((List.length x0 : Nat) : Int), ((0 : Int), ())))))) = true then
  letB (slices_IndexFunc_Heard.fn2 (x0, (x1.1, (x1.2, (((List.length x0 : Nat) : Int), ((0 : Int), ())))))) fun v1 =>
  match v1 with
  | .inl y =>
   some ((), y)
  | .inr y =>
   some ((), ((-1 : Int), ()))
 else
  none
theorem ok2 (x1 : List Heard) (x2 x3 : Heard → Bool) (x4 x5 : Int) (hp : pre2 (x1, (x2, (x3, (x4, (x5, ()))))) = true) : Rounds pre2 mu2 fn2 (x1, (x2, (x3, (x4, (x5, ()))))) (raw2 x1 x2 x3 x4 x5) := by
  unfold raw2
  by_cases hlt : x5 < x4
  · obtain ⟨h1, h2, h3, h4, h5⟩ := ix_next hp hlt H0
    simp only [hlt, h1, h2, h3, decide_true, if_true]
    split
    · rename_i h; exact h4 h
    · rename_i h; exact h5 h
  · simp only [hlt, decide_false, Bool.false_eq_true, if_false]
    exact ix_end hp hlt
theorem eq (x0 : List Heard) (x1 : (Heard → Bool) × (Heard → Bool)) (hw : wf x0 x1) (hp : pre x0 x1 = true) : raw x0 x1 = some ((), (slices_IndexFunc_Heard x0 x1, ())) := by
  have h1 : x0.length ≤ maxLen := hw.1.1
  unfold raw
  rw [if_pos (show pre2 _ = true by simp only [pre2, ixPre, Bool.and_eq_true, decide_eq_true_eq]; exact ⟨h1, trivial, by omega, by simp, hp⟩)]
  have hlo := (idxF_lo x1.2 x0 0 (by omega)).1
  by_cases h : idxF x1.2 x0 0 < 0
  · have hf : fn2 (x0, (x1.1, (x1.2, (((x0.length : Nat) : Int), ((0 : Int), ()))))) = .inr () := if_pos h
    rw [hf]
    show _ = some ((), (idxF x1.2 x0 0, ()))
    rw [show idxF x1.2 x0 0 = -1 by omega]
    rfl
  · have hf : fn2 (x0, (x1.1, (x1.2, (((x0.length : Nat) : Int), ((0 : Int), ()))))) = .inl (idxF x1.2 x0 0, ()) := if_neg h
    rw [hf]; rfl
end slices_IndexFunc_Heard
def slices_ContainsFunc_Heard (xs : List Heard) (p : (Heard → Bool) × (Heard → Bool)) : Bool := xs.any p.2
namespace slices_ContainsFunc_Heard
def pre (xs : List Heard) (p : (Heard → Bool) × (Heard → Bool)) : Bool := xs.all p.1
abbrev wf (x0 : (List Heard)) (x1 : ((Heard → Bool) × (Heard → Bool))) : Prop := wfA [(.val (.sl 0 (.pair (.int .i64) (.pair (.int .i64) (.pair (.pair (.int .i64) (.pair (.int .i64) (.pair .str (.pair .str .unit)))) (.pair (.int .i64) (.pair (.int .i64) .unit)))))) .f), (.fn (.pair (.int .i64) (.pair (.int .i64) (.pair (.pair (.int .i64) (.pair (.int .i64) (.pair .str (.pair .str .unit)))) (.pair (.int .i64) (.pair (.int .i64) .unit))))) .bool)] (x0, (x1, ()))
noncomputable def raw (x0 : (List Heard)) (x1 : ((Heard → Bool) × (Heard → Bool))) : Option (Unit × (Bool × Unit)) :=
 if (slices_IndexFunc_Heard.pre x0 x1) = true then
  letB (slices_IndexFunc_Heard x0 x1) fun v1 =>
  some ((), ((decide ((0 : Int) ≤ v1)), ()))
 else
  none
theorem eq (x0 : List Heard) (x1 : (Heard → Bool) × (Heard → Bool)) (_ : wf x0 x1) (hp : pre x0 x1 = true) : raw x0 x1 = some ((), (slices_ContainsFunc_Heard x0 x1, ())) := by
  unfold raw slices_ContainsFunc_Heard slices_IndexFunc_Heard
  rw [if_pos (show slices_IndexFunc_Heard.pre _ _ = true from hp)]
  have h := (idxF_lo x1.2 x0 0 (by omega)).2
  simp only [letB]
  by_cases ha : x0.any x1.2 = true
  · rw [ha, decide_eq_true (h.2 ha)]
  · have h0 : ¬ 0 ≤ idxF x1.2 x0 0 := fun hh => ha (h.1 hh)
    rw [decide_eq_false h0]
    simp only [Bool.not_eq_true] at ha
    rw [ha]
end slices_ContainsFunc_Heard
def impl_Told_1 (h : Heard) (who seq : Int) : Bool := decide (h.1 = who) && decide (h.2.1 = seq)
namespace impl_Told_1
abbrev wf (x0 : Heard) (x1 : Int) (x2 : Int) : Prop := wfA [(.val (.pair (.int .i64) (.pair (.int .i64) (.pair (.pair (.int .i64) (.pair (.int .i64) (.pair .str (.pair .str .unit)))) (.pair (.int .i64) (.pair (.int .i64) .unit))))) .f), (.peek (.int .i64)), (.peek (.int .i64))] (x0, (x1, (x2, ())))
noncomputable def raw (x0 : Heard) (x1 : Int) (x2 : Int) : Option (Unit × (Bool × Unit)) :=
 if (decide (x0.1 = x1)) = true then
  some ((), ((decide (x0.2.1 = x2)), ()))
 else
  some ((), (false, ()))
theorem eq (x0 : Heard) (x1 x2 : Int) (_ : wf x0 x1 x2) : raw x0 x1 x2 = some ((), (impl_Told_1 x0 x1 x2, ())) := by
  unfold raw impl_Told_1
  by_cases h : x0.1 = x1 <;> simp [h]
end impl_Told_1
def spec_Told (w : World) (who seq : Int) : Bool := w.2.2.2.2.2.2.1.any fun h => impl_Told_1 h who seq
def impl_Told (w : World) (who seq : Int) : Bool := spec_Told w who seq
namespace impl_Told
abbrev wf (x0 : (Setup × (Int × ((List (Int × ((Int × (Int × (Log × (((List Row) × ((List Maker) × ((List Group) × (Int × ((List Int) × ((List Answer) × Unit)))))) × Unit)))) × (Int × ((List Bool) × ((List Int) × ((List Int) × (Int × (((List Row) × ((List Maker) × ((List Group) × (Int × ((List Int) × ((List Answer) × Unit)))))) × (Disk × ((List (Int × (Int × (Int × (Int × (Int × (Int × (Int × ((List Entry) × (Bool × ((List UInt8) × Unit))))))))))) × Unit))))))))))) × ((List (Int × (Int × (Int × (Int × (Int × (Int × (Int × ((List Entry) × (Bool × ((List UInt8) × Unit))))))))))) × ((List Cmd) × ((List Int) × ((List Heard) × ((List Cmd) × Unit))))))))) (x1 : Int) (x2 : Int) : Prop := wfA [(.val (.pair (.pair (.int .i64) (.pair (.int .i64) (.pair (.int .i64) (.pair (.int .i64) .unit)))) (.pair (.int .i64) (.pair (.sl 0 (.pair (.int .i64) (.pair (.pair (.int .i64) (.pair (.int .i64) (.pair (.pair (.int .i64) (.pair (.int .i64) (.pair (.sl 0 (.pair (.int .i64) (.pair (.pair (.int .i64) (.pair (.int .i64) (.pair (.int .i64) (.pair (.int .i64) (.pair (.int .i64) (.pair (.int .i64) (.pair .str (.pair .str .unit)))))))) .unit))) .unit))) (.pair (.pair (.sl 0 (.pair (.int .i64) (.pair (.int .i64) (.pair (.sl 0 (.pair (.int .i64) (.pair .str (.pair .str (.pair (.int .i64) (.pair (.int .i64) .unit)))))) .unit)))) (.pair (.sl 0 (.pair (.int .i64) (.pair (.int .i64) (.pair (.int .i64) (.pair (.int .i64) (.pair (.sl 0 (.pair (.int .i64) (.pair (.int .i64) .unit))) .unit)))))) (.pair (.sl 0 (.pair (.int .i64) (.pair (.sl 0 (.int .i64)) (.pair (.sl 0 (.int .i64)) (.pair (.sl 0 (.int .i64)) .unit))))) (.pair (.int .i64) (.pair (.sl 0 (.int .i64)) (.pair (.sl 0 (.pair (.int .i64) (.pair (.int .i64) (.pair .str (.pair .str .unit))))) .unit)))))) .unit)))) (.pair (.int .i64) (.pair (.sl 0 .bool) (.pair (.sl 0 (.int .i64)) (.pair (.sl 0 (.int .i64)) (.pair (.int .i64) (.pair (.pair (.sl 0 (.pair (.int .i64) (.pair (.int .i64) (.pair (.sl 0 (.pair (.int .i64) (.pair .str (.pair .str (.pair (.int .i64) (.pair (.int .i64) .unit)))))) .unit)))) (.pair (.sl 0 (.pair (.int .i64) (.pair (.int .i64) (.pair (.int .i64) (.pair (.int .i64) (.pair (.sl 0 (.pair (.int .i64) (.pair (.int .i64) .unit))) .unit)))))) (.pair (.sl 0 (.pair (.int .i64) (.pair (.sl 0 (.int .i64)) (.pair (.sl 0 (.int .i64)) (.pair (.sl 0 (.int .i64)) .unit))))) (.pair (.int .i64) (.pair (.sl 0 (.int .i64)) (.pair (.sl 0 (.pair (.int .i64) (.pair (.int .i64) (.pair .str (.pair .str .unit))))) .unit)))))) (.pair (.pair (.sl 0 (.int .u8)) (.pair (.int .i64) .unit)) (.pair (.sl 0 (.pair (.int .i64) (.pair (.int .i64) (.pair (.int .i64) (.pair (.int .i64) (.pair (.int .i64) (.pair (.int .i64) (.pair (.int .i64) (.pair (.sl 0 (.pair (.int .i64) (.pair (.pair (.int .i64) (.pair (.int .i64) (.pair (.int .i64) (.pair (.int .i64) (.pair (.int .i64) (.pair (.int .i64) (.pair .str (.pair .str .unit)))))))) .unit))) (.pair .bool (.pair .str .unit))))))))))) .unit))))))))))) (.pair (.sl 0 (.pair (.int .i64) (.pair (.int .i64) (.pair (.int .i64) (.pair (.int .i64) (.pair (.int .i64) (.pair (.int .i64) (.pair (.int .i64) (.pair (.sl 0 (.pair (.int .i64) (.pair (.pair (.int .i64) (.pair (.int .i64) (.pair (.int .i64) (.pair (.int .i64) (.pair (.int .i64) (.pair (.int .i64) (.pair .str (.pair .str .unit)))))))) .unit))) (.pair .bool (.pair .str .unit))))))))))) (.pair (.sl 0 (.pair (.int .i64) (.pair (.int .i64) (.pair (.int .i64) (.pair (.int .i64) (.pair (.int .i64) (.pair (.int .i64) (.pair .str (.pair .str .unit))))))))) (.pair (.sl 0 (.int .i64)) (.pair (.sl 0 (.pair (.int .i64) (.pair (.int .i64) (.pair (.pair (.int .i64) (.pair (.int .i64) (.pair .str (.pair .str .unit)))) (.pair (.int .i64) (.pair (.int .i64) .unit)))))) (.pair (.sl 0 (.pair (.int .i64) (.pair (.int .i64) (.pair (.int .i64) (.pair (.int .i64) (.pair (.int .i64) (.pair (.int .i64) (.pair .str (.pair .str .unit))))))))) .unit)))))))) .f), (.val (.int .i64) .f), (.val (.int .i64) .f)] (x0, (x1, (x2, ())))
noncomputable def raw (x0 : (Setup × (Int × ((List (Int × ((Int × (Int × (Log × (((List Row) × ((List Maker) × ((List Group) × (Int × ((List Int) × ((List Answer) × Unit)))))) × Unit)))) × (Int × ((List Bool) × ((List Int) × ((List Int) × (Int × (((List Row) × ((List Maker) × ((List Group) × (Int × ((List Int) × ((List Answer) × Unit)))))) × (Disk × ((List (Int × (Int × (Int × (Int × (Int × (Int × (Int × ((List Entry) × (Bool × ((List UInt8) × Unit))))))))))) × Unit))))))))))) × ((List (Int × (Int × (Int × (Int × (Int × (Int × (Int × ((List Entry) × (Bool × ((List UInt8) × Unit))))))))))) × ((List Cmd) × ((List Int) × ((List Heard) × ((List Cmd) × Unit))))))))) (x1 : Int) (x2 : Int) : Option (Unit × (Bool × Unit)) :=
 if (slices_ContainsFunc_Heard.pre x0.2.2.2.2.2.2.1 ((fun x => true), (fun x => (impl_Told_1 x x1 x2)))) = true then
  letB (slices_ContainsFunc_Heard x0.2.2.2.2.2.2.1 ((fun x => true), (fun x => (impl_Told_1 x x1 x2)))) fun v1 =>
  some ((), (v1, ()))
 else
  none
theorem eq (x0 : World) (x1 x2 : Int) (_ : wf x0 x1 x2) : raw x0 x1 x2 = some ((), (impl_Told x0 x1 x2, ())) := by
  unfold raw
  rw [if_pos (show slices_ContainsFunc_Heard.pre _ _ = true by simp [slices_ContainsFunc_Heard.pre])]
  rfl
end impl_Told
namespace spec_Told
abbrev S := Int × (Int × (Int × (World × Unit)))
def pre2 : S → Bool := fun s => decide (s.2.2.2.1.2.2.2.2.2.2.1.length ≤ maxLen) && (decide (0 ≤ s.2.2.1) && decide (s.2.2.1.toNat ≤ s.2.2.2.1.2.2.2.2.2.2.1.length))
def fn2 : S → (Bool × Unit) ⊕ Unit := fun s => cond ((s.2.2.2.1.2.2.2.2.2.2.1.drop s.2.2.1.toNat).any fun h => impl_Told_1 h s.1 s.2.1) (.inl (true, ())) (.inr ())
def mu2 : S → Nat := fun s => s.2.2.2.1.2.2.2.2.2.2.1.length - s.2.2.1.toNat
noncomputable def raw2 (x1 : Int) (x2 : Int) (x3 : Int) (x4 : (Setup × (Int × ((List (Int × ((Int × (Int × (Log × (((List Row) × ((List Maker) × ((List Group) × (Int × ((List Int) × ((List Answer) × Unit)))))) × Unit)))) × (Int × ((List Bool) × ((List Int) × ((List Int) × (Int × (((List Row) × ((List Maker) × ((List Group) × (Int × ((List Int) × ((List Answer) × Unit)))))) × (Disk × ((List (Int × (Int × (Int × (Int × (Int × (Int × (Int × ((List Entry) × (Bool × ((List UInt8) × Unit))))))))))) × Unit))))))))))) × ((List (Int × (Int × (Int × (Int × (Int × (Int × (Int × ((List Entry) × (Bool × ((List UInt8) × Unit))))))))))) × ((List Cmd) × ((List Int) × ((List Heard) × ((List Cmd) × Unit))))))))) : Option ((Int × (Int × (Int × ((Setup × (Int × ((List (Int × ((Int × (Int × (Log × (((List Row) × ((List Maker) × ((List Group) × (Int × ((List Int) × ((List Answer) × Unit)))))) × Unit)))) × (Int × ((List Bool) × ((List Int) × ((List Int) × (Int × (((List Row) × ((List Maker) × ((List Group) × (Int × ((List Int) × ((List Answer) × Unit)))))) × (Disk × ((List (Int × (Int × (Int × (Int × (Int × (Int × (Int × ((List Entry) × (Bool × ((List UInt8) × Unit))))))))))) × Unit))))))))))) × ((List (Int × (Int × (Int × (Int × (Int × (Int × (Int × ((List Entry) × (Bool × ((List UInt8) × Unit))))))))))) × ((List Cmd) × ((List Int) × ((List Heard) × ((List Cmd) × Unit)))))))) × Unit)))) ⊕ ((Bool × Unit) ⊕ Unit)) :=
 if (decide (x3 < ((List.length x4.2.2.2.2.2.2.1 : Nat) : Int))) = true then
  if (decide ((0 : Int) ≤ x3)) = true then
   if (decide (x3 < ((List.length x4.2.2.2.2.2.2.1 : Nat) : Int))) = true then
    if (decide ((List.getD x4.2.2.2.2.2.2.1 (Int.toNat x3) ((0 : Int), ((0 : Int), (((0 : Int), ((0 : Int), (([] : List UInt8), (([] : List UInt8), ())))), ((0 : Int), ((0 : Int), ())))))).1 = x1)) = true then
     if (decide ((0 : Int) ≤ x3)) = true then
      if (decide (x3 < ((List.length x4.2.2.2.2.2.2.1 : Nat) : Int))) = true then
       if (decide ((List.getD x4.2.2.2.2.2.2.1 (Int.toNat x3) ((0 : Int), ((0 : Int), (((0 : Int), ((0 : Int), (([] : List UInt8), (([] : List UInt8), ())))), ((0 : Int), ((0 : Int), ())))))).2.1 = x2)) = true then
        some (.inr (.inl (true, ())))
       else
        some (.inl (x1, (x2, ((IntKind.wrap .i64 (x3 + (1 : Int))), (x4, ())))))
      else
       none
     else
      none
    else
     some (.inl (x1, (x2, ((IntKind.wrap .i64 (x3 + (1 : Int))), (x4, ())))))
   else
    none
  else
   none
 else
  some (.inr (.inr ()))
abbrev wf (x0 : (Setup × (Int × ((List (Int × ((Int × (Int × (Log × (((List Row) × ((List Maker) × ((List Group) × (Int × ((List Int) × ((List Answer) × Unit)))))) × Unit)))) × (Int × ((List Bool) × ((List Int) × ((List Int) × (Int × (((List Row) × ((List Maker) × ((List Group) × (Int × ((List Int) × ((List Answer) × Unit)))))) × (Disk × ((List (Int × (Int × (Int × (Int × (Int × (Int × (Int × ((List Entry) × (Bool × ((List UInt8) × Unit))))))))))) × Unit))))))))))) × ((List (Int × (Int × (Int × (Int × (Int × (Int × (Int × ((List Entry) × (Bool × ((List UInt8) × Unit))))))))))) × ((List Cmd) × ((List Int) × ((List Heard) × ((List Cmd) × Unit))))))))) (x1 : Int) (x2 : Int) : Prop := wfA [(.val (.pair (.pair (.int .i64) (.pair (.int .i64) (.pair (.int .i64) (.pair (.int .i64) .unit)))) (.pair (.int .i64) (.pair (.sl 0 (.pair (.int .i64) (.pair (.pair (.int .i64) (.pair (.int .i64) (.pair (.pair (.int .i64) (.pair (.int .i64) (.pair (.sl 0 (.pair (.int .i64) (.pair (.pair (.int .i64) (.pair (.int .i64) (.pair (.int .i64) (.pair (.int .i64) (.pair (.int .i64) (.pair (.int .i64) (.pair .str (.pair .str .unit)))))))) .unit))) .unit))) (.pair (.pair (.sl 0 (.pair (.int .i64) (.pair (.int .i64) (.pair (.sl 0 (.pair (.int .i64) (.pair .str (.pair .str (.pair (.int .i64) (.pair (.int .i64) .unit)))))) .unit)))) (.pair (.sl 0 (.pair (.int .i64) (.pair (.int .i64) (.pair (.int .i64) (.pair (.int .i64) (.pair (.sl 0 (.pair (.int .i64) (.pair (.int .i64) .unit))) .unit)))))) (.pair (.sl 0 (.pair (.int .i64) (.pair (.sl 0 (.int .i64)) (.pair (.sl 0 (.int .i64)) (.pair (.sl 0 (.int .i64)) .unit))))) (.pair (.int .i64) (.pair (.sl 0 (.int .i64)) (.pair (.sl 0 (.pair (.int .i64) (.pair (.int .i64) (.pair .str (.pair .str .unit))))) .unit)))))) .unit)))) (.pair (.int .i64) (.pair (.sl 0 .bool) (.pair (.sl 0 (.int .i64)) (.pair (.sl 0 (.int .i64)) (.pair (.int .i64) (.pair (.pair (.sl 0 (.pair (.int .i64) (.pair (.int .i64) (.pair (.sl 0 (.pair (.int .i64) (.pair .str (.pair .str (.pair (.int .i64) (.pair (.int .i64) .unit)))))) .unit)))) (.pair (.sl 0 (.pair (.int .i64) (.pair (.int .i64) (.pair (.int .i64) (.pair (.int .i64) (.pair (.sl 0 (.pair (.int .i64) (.pair (.int .i64) .unit))) .unit)))))) (.pair (.sl 0 (.pair (.int .i64) (.pair (.sl 0 (.int .i64)) (.pair (.sl 0 (.int .i64)) (.pair (.sl 0 (.int .i64)) .unit))))) (.pair (.int .i64) (.pair (.sl 0 (.int .i64)) (.pair (.sl 0 (.pair (.int .i64) (.pair (.int .i64) (.pair .str (.pair .str .unit))))) .unit)))))) (.pair (.pair (.sl 0 (.int .u8)) (.pair (.int .i64) .unit)) (.pair (.sl 0 (.pair (.int .i64) (.pair (.int .i64) (.pair (.int .i64) (.pair (.int .i64) (.pair (.int .i64) (.pair (.int .i64) (.pair (.int .i64) (.pair (.sl 0 (.pair (.int .i64) (.pair (.pair (.int .i64) (.pair (.int .i64) (.pair (.int .i64) (.pair (.int .i64) (.pair (.int .i64) (.pair (.int .i64) (.pair .str (.pair .str .unit)))))))) .unit))) (.pair .bool (.pair .str .unit))))))))))) .unit))))))))))) (.pair (.sl 0 (.pair (.int .i64) (.pair (.int .i64) (.pair (.int .i64) (.pair (.int .i64) (.pair (.int .i64) (.pair (.int .i64) (.pair (.int .i64) (.pair (.sl 0 (.pair (.int .i64) (.pair (.pair (.int .i64) (.pair (.int .i64) (.pair (.int .i64) (.pair (.int .i64) (.pair (.int .i64) (.pair (.int .i64) (.pair .str (.pair .str .unit)))))))) .unit))) (.pair .bool (.pair .str .unit))))))))))) (.pair (.sl 0 (.pair (.int .i64) (.pair (.int .i64) (.pair (.int .i64) (.pair (.int .i64) (.pair (.int .i64) (.pair (.int .i64) (.pair .str (.pair .str .unit))))))))) (.pair (.sl 0 (.int .i64)) (.pair (.sl 0 (.pair (.int .i64) (.pair (.int .i64) (.pair (.pair (.int .i64) (.pair (.int .i64) (.pair .str (.pair .str .unit)))) (.pair (.int .i64) (.pair (.int .i64) .unit)))))) (.pair (.sl 0 (.pair (.int .i64) (.pair (.int .i64) (.pair (.int .i64) (.pair (.int .i64) (.pair (.int .i64) (.pair (.int .i64) (.pair .str (.pair .str .unit))))))))) .unit)))))))) .f), (.val (.int .i64) .f), (.val (.int .i64) .f)] (x0, (x1, (x2, ())))
noncomputable def raw (x0 : (Setup × (Int × ((List (Int × ((Int × (Int × (Log × (((List Row) × ((List Maker) × ((List Group) × (Int × ((List Int) × ((List Answer) × Unit)))))) × Unit)))) × (Int × ((List Bool) × ((List Int) × ((List Int) × (Int × (((List Row) × ((List Maker) × ((List Group) × (Int × ((List Int) × ((List Answer) × Unit)))))) × (Disk × ((List (Int × (Int × (Int × (Int × (Int × (Int × (Int × ((List Entry) × (Bool × ((List UInt8) × Unit))))))))))) × Unit))))))))))) × ((List (Int × (Int × (Int × (Int × (Int × (Int × (Int × ((List Entry) × (Bool × ((List UInt8) × Unit))))))))))) × ((List Cmd) × ((List Int) × ((List Heard) × ((List Cmd) × Unit))))))))) (x1 : Int) (x2 : Int) : Option (Unit × (Bool × Unit)) :=
 if (spec_Told.pre2 (x1, (x2, ((0 : Int), (x0, ()))))) = true then
  letB (spec_Told.fn2 (x1, (x2, ((0 : Int), (x0, ()))))) fun v1 =>
  match v1 with
  | .inl y =>
   some ((), y)
  | .inr y =>
   some ((), (false, ()))
 else
  none
theorem ok2 (x1 x2 x3 : Int) (x4 : World) (hp : pre2 (x1, (x2, (x3, (x4, ())))) = true) : Rounds pre2 mu2 fn2 (x1, (x2, (x3, (x4, ())))) (raw2 x1 x2 x3 x4) := by
  simp only [pre2, Bool.and_eq_true, decide_eq_true_eq] at hp
  obtain ⟨h1, h2, h3⟩ := hp
  have hM := maxLen_eq
  unfold raw2
  by_cases hlt : x3 < (x4.2.2.2.2.2.2.1.length : Int)
  · have hn : x3.toNat < x4.2.2.2.2.2.2.1.length := by omega
    have e1 := List.drop_eq_getElem_cons hn
    have next : impl_Told_1 x4.2.2.2.2.2.2.1[x3.toNat] x1 x2 = false → Rounds pre2 mu2 fn2 (x1, (x2, (x3, (x4, ())))) (some (.inl (x1, (x2, (IntKind.wrap .i64 (x3 + 1), (x4, ())))))) := by
      intro hf
      simp only [Rounds, w64 (n := x3 + 1) (by omega) (by omega)]
      refine ⟨?_, by simp only [mu2]; omega, ?_⟩
      · simp only [pre2, Bool.and_eq_true, decide_eq_true_eq]; exact ⟨h1, by omega, by omega⟩
      · simp only [fn2, show (x3 + 1).toNat = x3.toNat + 1 by omega, e1, List.any_cons, hf, Bool.false_or]
    rw [if_pos (by simp [hlt]), if_pos (by simp [h2]), if_pos (by simp [hlt]), getD_get hn]
    by_cases ha : (x4.2.2.2.2.2.2.1[x3.toNat]).1 = x1
    · rw [if_pos (decide_eq_true ha), if_pos (by simp [h2]), if_pos (by simp [hlt])]
      by_cases hb : (x4.2.2.2.2.2.2.1[x3.toNat]).2.1 = x2
      · rw [if_pos (decide_eq_true hb)]
        simp only [Rounds, fn2, e1, List.any_cons]
        rw [show impl_Told_1 x4.2.2.2.2.2.2.1[x3.toNat] x1 x2 = true by simp [impl_Told_1, ha, hb]]
        rfl
      · rw [if_neg (by simp [hb])]
        exact next (by simp [impl_Told_1, hb])
    · rw [if_neg (by simp [ha])]
      exact next (by simp [impl_Told_1, ha])
  · rw [if_neg (by simp [hlt])]
    simp only [Rounds, fn2]
    rw [List.drop_eq_nil_of_le (by omega)]
    rfl
theorem eq (x0 : World) (x1 x2 : Int) (hw : wf x0 x1 x2) : raw x0 x1 x2 = some ((), (spec_Told x0 x1 x2, ())) := by
  have h1 : x0.2.2.2.2.2.2.1.length ≤ maxLen := hw.1.2.2.2.2.2.2.1.1
  unfold raw
  rw [if_pos (show pre2 _ = true by simp [pre2, h1])]
  have hf : fn2 (x1, (x2, ((0 : Int), (x0, ())))) = cond (spec_Told x0 x1 x2) (.inl (true, ())) (.inr ()) := rfl
  simp only [letB, hf]
  cases spec_Told x0 x1 x2 <;> rfl
end spec_Told
def laws_FnExactTold (_ : World) (_ _ : Int) : Bool := true
namespace laws_FnExactTold
abbrev wf (x0 : (Setup × (Int × ((List (Int × ((Int × (Int × (Log × (((List Row) × ((List Maker) × ((List Group) × (Int × ((List Int) × ((List Answer) × Unit)))))) × Unit)))) × (Int × ((List Bool) × ((List Int) × ((List Int) × (Int × (((List Row) × ((List Maker) × ((List Group) × (Int × ((List Int) × ((List Answer) × Unit)))))) × (Disk × ((List (Int × (Int × (Int × (Int × (Int × (Int × (Int × ((List Entry) × (Bool × ((List UInt8) × Unit))))))))))) × Unit))))))))))) × ((List (Int × (Int × (Int × (Int × (Int × (Int × (Int × ((List Entry) × (Bool × ((List UInt8) × Unit))))))))))) × ((List Cmd) × ((List Int) × ((List Heard) × ((List Cmd) × Unit))))))))) (x1 : Int) (x2 : Int) : Prop := wfA [(.val (.pair (.pair (.int .i64) (.pair (.int .i64) (.pair (.int .i64) (.pair (.int .i64) .unit)))) (.pair (.int .i64) (.pair (.sl 0 (.pair (.int .i64) (.pair (.pair (.int .i64) (.pair (.int .i64) (.pair (.pair (.int .i64) (.pair (.int .i64) (.pair (.sl 0 (.pair (.int .i64) (.pair (.pair (.int .i64) (.pair (.int .i64) (.pair (.int .i64) (.pair (.int .i64) (.pair (.int .i64) (.pair (.int .i64) (.pair .str (.pair .str .unit)))))))) .unit))) .unit))) (.pair (.pair (.sl 0 (.pair (.int .i64) (.pair (.int .i64) (.pair (.sl 0 (.pair (.int .i64) (.pair .str (.pair .str (.pair (.int .i64) (.pair (.int .i64) .unit)))))) .unit)))) (.pair (.sl 0 (.pair (.int .i64) (.pair (.int .i64) (.pair (.int .i64) (.pair (.int .i64) (.pair (.sl 0 (.pair (.int .i64) (.pair (.int .i64) .unit))) .unit)))))) (.pair (.sl 0 (.pair (.int .i64) (.pair (.sl 0 (.int .i64)) (.pair (.sl 0 (.int .i64)) (.pair (.sl 0 (.int .i64)) .unit))))) (.pair (.int .i64) (.pair (.sl 0 (.int .i64)) (.pair (.sl 0 (.pair (.int .i64) (.pair (.int .i64) (.pair .str (.pair .str .unit))))) .unit)))))) .unit)))) (.pair (.int .i64) (.pair (.sl 0 .bool) (.pair (.sl 0 (.int .i64)) (.pair (.sl 0 (.int .i64)) (.pair (.int .i64) (.pair (.pair (.sl 0 (.pair (.int .i64) (.pair (.int .i64) (.pair (.sl 0 (.pair (.int .i64) (.pair .str (.pair .str (.pair (.int .i64) (.pair (.int .i64) .unit)))))) .unit)))) (.pair (.sl 0 (.pair (.int .i64) (.pair (.int .i64) (.pair (.int .i64) (.pair (.int .i64) (.pair (.sl 0 (.pair (.int .i64) (.pair (.int .i64) .unit))) .unit)))))) (.pair (.sl 0 (.pair (.int .i64) (.pair (.sl 0 (.int .i64)) (.pair (.sl 0 (.int .i64)) (.pair (.sl 0 (.int .i64)) .unit))))) (.pair (.int .i64) (.pair (.sl 0 (.int .i64)) (.pair (.sl 0 (.pair (.int .i64) (.pair (.int .i64) (.pair .str (.pair .str .unit))))) .unit)))))) (.pair (.pair (.sl 0 (.int .u8)) (.pair (.int .i64) .unit)) (.pair (.sl 0 (.pair (.int .i64) (.pair (.int .i64) (.pair (.int .i64) (.pair (.int .i64) (.pair (.int .i64) (.pair (.int .i64) (.pair (.int .i64) (.pair (.sl 0 (.pair (.int .i64) (.pair (.pair (.int .i64) (.pair (.int .i64) (.pair (.int .i64) (.pair (.int .i64) (.pair (.int .i64) (.pair (.int .i64) (.pair .str (.pair .str .unit)))))))) .unit))) (.pair .bool (.pair .str .unit))))))))))) .unit))))))))))) (.pair (.sl 0 (.pair (.int .i64) (.pair (.int .i64) (.pair (.int .i64) (.pair (.int .i64) (.pair (.int .i64) (.pair (.int .i64) (.pair (.int .i64) (.pair (.sl 0 (.pair (.int .i64) (.pair (.pair (.int .i64) (.pair (.int .i64) (.pair (.int .i64) (.pair (.int .i64) (.pair (.int .i64) (.pair (.int .i64) (.pair .str (.pair .str .unit)))))))) .unit))) (.pair .bool (.pair .str .unit))))))))))) (.pair (.sl 0 (.pair (.int .i64) (.pair (.int .i64) (.pair (.int .i64) (.pair (.int .i64) (.pair (.int .i64) (.pair (.int .i64) (.pair .str (.pair .str .unit))))))))) (.pair (.sl 0 (.int .i64)) (.pair (.sl 0 (.pair (.int .i64) (.pair (.int .i64) (.pair (.pair (.int .i64) (.pair (.int .i64) (.pair .str (.pair .str .unit)))) (.pair (.int .i64) (.pair (.int .i64) .unit)))))) (.pair (.sl 0 (.pair (.int .i64) (.pair (.int .i64) (.pair (.int .i64) (.pair (.int .i64) (.pair (.int .i64) (.pair (.int .i64) (.pair .str (.pair .str .unit))))))))) .unit)))))))) .f), (.val (.int .i64) .f), (.val (.int .i64) .f)] (x0, (x1, (x2, ())))
noncomputable def raw (x0 : (Setup × (Int × ((List (Int × ((Int × (Int × (Log × (((List Row) × ((List Maker) × ((List Group) × (Int × ((List Int) × ((List Answer) × Unit)))))) × Unit)))) × (Int × ((List Bool) × ((List Int) × ((List Int) × (Int × (((List Row) × ((List Maker) × ((List Group) × (Int × ((List Int) × ((List Answer) × Unit)))))) × (Disk × ((List (Int × (Int × (Int × (Int × (Int × (Int × (Int × ((List Entry) × (Bool × ((List UInt8) × Unit))))))))))) × Unit))))))))))) × ((List (Int × (Int × (Int × (Int × (Int × (Int × (Int × ((List Entry) × (Bool × ((List UInt8) × Unit))))))))))) × ((List Cmd) × ((List Int) × ((List Heard) × ((List Cmd) × Unit))))))))) (x1 : Int) (x2 : Int) : Option (Unit × (Bool × Unit)) :=
 if (laws_szWorld.pre x0 (1048576 : Int)) = true then
  letB (laws_szWorld x0 (1048576 : Int)) fun v1 =>
  if (decide (v1 < (0 : Int))) = true then
   some ((), (true, ()))
  else
   if (laws_toWorld.pre x0) = true then
    if (laws_toWorld.pre x0) = true then
     letB (laws_toWorld x0) fun v2 =>
     letB (impl_Told v2 x1 x2) fun v3 =>
     letB (spec_Told v2 x1 x2) fun v4 =>
     if (!(v3 == v4)) = true then
      some ((), (false, ()))
     else
      if (laws_toWorld.pre x0) = true then
       letB (laws_eqWorld v2 v2) fun v5 =>
       if (!v5) = true then
        some ((), (false, ()))
       else
        some ((), (true, ()))
      else
       none
    else
     none
   else
    none
 else
  none
theorem eq (x0 : World) (x1 x2 : Int) (_ : wf x0 x1 x2) : raw x0 x1 x2 = some ((), (laws_FnExactTold x0 x1 x2, ())) := by
  have hM := maxLen_eq
  unfold raw
  simp only [letB]
  rw [if_pos (show laws_szWorld.pre _ _ = true by simp only [laws_szWorld.pre, Bool.and_eq_true, decide_eq_true_eq]; omega)]
  by_cases h : 1048576 - w_World x0 < 0
  · rw [show laws_szWorld x0 1048576 = -1 from szN_neg h, if_pos (by decide)]; rfl
  · have p := toWorld_pre (x := x0) (by omega)
    have e : laws_toWorld x0 = x0 := rfl
    rw [show laws_szWorld x0 1048576 = 1048576 - w_World x0 from szN_pos h, if_neg (by rw [decide_eq_true_eq]; exact h)]
    simp only [p, e, impl_Told, laws_eqWorld, same_self, beq_self_eq_true, Bool.not_true, Bool.false_eq_true, if_true, if_false]
    rfl
end laws_FnExactTold
end Go.Aw.Pl
