import Derived.Test.YtpcdhadfpeojkaaGreatPna
namespace Go.Aw.Pl
open Go Go.Aw
set_option linter.unusedVariables false
set_option linter.unusedSimpArgs false
set_option maxHeartbeats 1000000
namespace laws_markRpcS
def pre (xs : List Rpc) (k : Int) : Bool := mPre cnt_Rpc xs k
def pre2 := mkPre cnt_Rpc
def fn2 := mkFn mk_Rpc cnt_Rpc
def mu2 := mkMu (α := Rpc)
noncomputable def raw2 (x1 : Int) (x2 : Int) (x3 : (List zt4)) : Option ((Int × (Int × ((List zt4) × Unit))) ⊕ (Int × ((List zt4) × Unit))) :=
 if (decide (x2 < ((List.length x3 : Nat) : Int))) = true then
 if (decide ((0 : Int) ≤ x2)) = true then
 if (decide (x2 < ((List.length x3 : Nat) : Int))) = true then
 if (decide ((0 : Int) ≤ x2)) = true then
 if (decide (x2 < ((List.length (List.modify x3 (Int.toNat x2) (fun z => (x1, z.2))) : Nat) : Int))) = true then
 if (decide ((0 : Int) ≤ x2)) = true then
 if (decide (x2 < ((List.length (List.modify (List.modify x3 (Int.toNat x2) (fun z => (x1, z.2))) (Int.toNat x2) (fun z => (z.1, ((IntKind.wrap .i64 (x1 + (1 : Int))), z.2.2)))) : Nat) : Int))) = true then
 if (decide ((0 : Int) ≤ x2)) = true then
 if (decide (x2 < ((List.length (List.modify (List.modify (List.modify x3 (Int.toNat x2) (fun z => (x1, z.2))) (Int.toNat x2) (fun z => (z.1, ((IntKind.wrap .i64 (x1 + (1 : Int))), z.2.2)))) (Int.toNat x2) (fun z => (z.1, (z.2.1, ((IntKind.wrap .i64 ((IntKind.wrap .i64 (x1 + (1 : Int))) + (1 : Int))), z.2.2.2))))) : Nat) : Int))) = true then
 if (decide ((0 : Int) ≤ x2)) = true then
 if (decide (x2 < ((List.length (List.modify (List.modify (List.modify (List.modify x3 (Int.toNat x2) (fun z => (x1, z.2))) (Int.toNat x2) (fun z => (z.1, ((IntKind.wrap .i64 (x1 + (1 : Int))), z.2.2)))) (Int.toNat x2) (fun z => (z.1, (z.2.1, ((IntKind.wrap .i64 ((IntKind.wrap .i64 (x1 + (1 : Int))) + (1 : Int))), z.2.2.2))))) (Int.toNat x2) (fun z => (z.1, (z.2.1, (z.2.2.1, ((IntKind.wrap .i64 ((IntKind.wrap .i64 ((IntKind.wrap .i64 (x1 + (1 : Int))) + (1 : Int))) + (1 : Int))), z.2.2.2.2)))))) : Nat) : Int))) = true then
 if (decide ((0 : Int) ≤ x2)) = true then
 if (decide (x2 < ((List.length (List.modify (List.modify (List.modify (List.modify (List.modify x3 (Int.toNat x2) (fun z => (x1, z.2))) (Int.toNat x2) (fun z => (z.1, ((IntKind.wrap .i64 (x1 + (1 : Int))), z.2.2)))) (Int.toNat x2) (fun z => (z.1, (z.2.1, ((IntKind.wrap .i64 ((IntKind.wrap .i64 (x1 + (1 : Int))) + (1 : Int))), z.2.2.2))))) (Int.toNat x2) (fun z => (z.1, (z.2.1, (z.2.2.1, ((IntKind.wrap .i64 ((IntKind.wrap .i64 ((IntKind.wrap .i64 (x1 + (1 : Int))) + (1 : Int))) + (1 : Int))), z.2.2.2.2)))))) (Int.toNat x2) (fun z => (z.1, (z.2.1, (z.2.2.1, (z.2.2.2.1, ((IntKind.wrap .i64 ((IntKind.wrap .i64 ((IntKind.wrap .i64 ((IntKind.wrap .i64 (x1 + (1 : Int))) + (1 : Int))) + (1 : Int))) + (1 : Int))), z.2.2.2.2.2))))))) : Nat) : Int))) = true then
 if (decide ((0 : Int) ≤ x2)) = true then
 if (decide (x2 < ((List.length (List.modify (List.modify (List.modify (List.modify (List.modify (List.modify x3 (Int.toNat x2) (fun z => (x1, z.2))) (Int.toNat x2) (fun z => (z.1, ((IntKind.wrap .i64 (x1 + (1 : Int))), z.2.2)))) (Int.toNat x2) (fun z => (z.1, (z.2.1, ((IntKind.wrap .i64 ((IntKind.wrap .i64 (x1 + (1 : Int))) + (1 : Int))), z.2.2.2))))) (Int.toNat x2) (fun z => (z.1, (z.2.1, (z.2.2.1, ((IntKind.wrap .i64 ((IntKind.wrap .i64 ((IntKind.wrap .i64 (x1 + (1 : Int))) + (1 : Int))) + (1 : Int))), z.2.2.2.2)))))) (Int.toNat x2) (fun z => (z.1, (z.2.1, (z.2.2.1, (z.2.2.2.1, ((IntKind.wrap .i64 ((IntKind.wrap .i64 ((IntKind.wrap .i64 ((IntKind.wrap .i64 (x1 + (1 : Int))) + (1 : Int))) + (1 : Int))) + (1 : Int))), z.2.2.2.2.2))))))) (Int.toNat x2) (fun z => (z.1, (z.2.1, (z.2.2.1, (z.2.2.2.1, (z.2.2.2.2.1, ((IntKind.wrap .i64 ((IntKind.wrap .i64 ((IntKind.wrap .i64 ((IntKind.wrap .i64 ((IntKind.wrap .i64 (x1 + (1 : Int))) + (1 : Int))) + (1 : Int))) + (1 : Int))) + (1 : Int))), z.2.2.2.2.2.2)))))))) : Nat) : Int))) = true then
 if (decide ((0 : Int) ≤ x2)) = true then
 if (decide (x2 < ((List.length (List.modify (List.modify (List.modify (List.modify (List.modify (List.modify (List.modify x3 (Int.toNat x2) (fun z => (x1, z.2))) (Int.toNat x2) (fun z => (z.1, ((IntKind.wrap .i64 (x1 + (1 : Int))), z.2.2)))) (Int.toNat x2) (fun z => (z.1, (z.2.1, ((IntKind.wrap .i64 ((IntKind.wrap .i64 (x1 + (1 : Int))) + (1 : Int))), z.2.2.2))))) (Int.toNat x2) (fun z => (z.1, (z.2.1, (z.2.2.1, ((IntKind.wrap .i64 ((IntKind.wrap .i64 ((IntKind.wrap .i64 (x1 + (1 : Int))) + (1 : Int))) + (1 : Int))), z.2.2.2.2)))))) (Int.toNat x2) (fun z => (z.1, (z.2.1, (z.2.2.1, (z.2.2.2.1, ((IntKind.wrap .i64 ((IntKind.wrap .i64 ((IntKind.wrap .i64 ((IntKind.wrap .i64 (x1 + (1 : Int))) + (1 : Int))) + (1 : Int))) + (1 : Int))), z.2.2.2.2.2))))))) (Int.toNat x2) (fun z => (z.1, (z.2.1, (z.2.2.1, (z.2.2.2.1, (z.2.2.2.2.1, ((IntKind.wrap .i64 ((IntKind.wrap .i64 ((IntKind.wrap .i64 ((IntKind.wrap .i64 ((IntKind.wrap .i64 (x1 + (1 : Int))) + (1 : Int))) + (1 : Int))) + (1 : Int))) + (1 : Int))), z.2.2.2.2.2.2)))))))) (Int.toNat x2) (fun z => (z.1, (z.2.1, (z.2.2.1, (z.2.2.2.1, (z.2.2.2.2.1, (z.2.2.2.2.2.1, ((IntKind.wrap .i64 ((IntKind.wrap .i64 ((IntKind.wrap .i64 ((IntKind.wrap .i64 ((IntKind.wrap .i64 ((IntKind.wrap .i64 (x1 + (1 : Int))) + (1 : Int))) + (1 : Int))) + (1 : Int))) + (1 : Int))) + (1 : Int))), z.2.2.2.2.2.2.2))))))))) : Nat) : Int))) = true then
 if (laws_markEntryS.pre (List.getD (List.modify (List.modify (List.modify (List.modify (List.modify (List.modify (List.modify x3 (Int.toNat x2) (fun z => (x1, z.2))) (Int.toNat x2) (fun z => (z.1, ((IntKind.wrap .i64 (x1 + (1 : Int))), z.2.2)))) (Int.toNat x2) (fun z => (z.1, (z.2.1, ((IntKind.wrap .i64 ((IntKind.wrap .i64 (x1 + (1 : Int))) + (1 : Int))), z.2.2.2))))) (Int.toNat x2) (fun z => (z.1, (z.2.1, (z.2.2.1, ((IntKind.wrap .i64 ((IntKind.wrap .i64 ((IntKind.wrap .i64 (x1 + (1 : Int))) + (1 : Int))) + (1 : Int))), z.2.2.2.2)))))) (Int.toNat x2) (fun z => (z.1, (z.2.1, (z.2.2.1, (z.2.2.2.1, ((IntKind.wrap .i64 ((IntKind.wrap .i64 ((IntKind.wrap .i64 ((IntKind.wrap .i64 (x1 + (1 : Int))) + (1 : Int))) + (1 : Int))) + (1 : Int))), z.2.2.2.2.2))))))) (Int.toNat x2) (fun z => (z.1, (z.2.1, (z.2.2.1, (z.2.2.2.1, (z.2.2.2.2.1, ((IntKind.wrap .i64 ((IntKind.wrap .i64 ((IntKind.wrap .i64 ((IntKind.wrap .i64 ((IntKind.wrap .i64 (x1 + (1 : Int))) + (1 : Int))) + (1 : Int))) + (1 : Int))) + (1 : Int))), z.2.2.2.2.2.2)))))))) (Int.toNat x2) (fun z => (z.1, (z.2.1, (z.2.2.1, (z.2.2.2.1, (z.2.2.2.2.1, (z.2.2.2.2.2.1, ((IntKind.wrap .i64 ((IntKind.wrap .i64 ((IntKind.wrap .i64 ((IntKind.wrap .i64 ((IntKind.wrap .i64 ((IntKind.wrap .i64 (x1 + (1 : Int))) + (1 : Int))) + (1 : Int))) + (1 : Int))) + (1 : Int))) + (1 : Int))), z.2.2.2.2.2.2.2))))))))) (Int.toNat x2) zd5).2.2.2.2.2.2.2.1 (IntKind.wrap .i64 ((IntKind.wrap .i64 ((IntKind.wrap .i64 ((IntKind.wrap .i64 ((IntKind.wrap .i64 ((IntKind.wrap .i64 ((IntKind.wrap .i64 (x1 + (1 : Int))) + (1 : Int))) + (1 : Int))) + (1 : Int))) + (1 : Int))) + (1 : Int))) + (1 : Int)))) = true then
 if (!(decide ((3 : Int) = (0 : Int)))) = true then
 if (decide ((0 : Int) ≤ x2)) = true then
 if (decide (x2 < ((List.length (List.modify (List.modify (List.modify (List.modify (List.modify (List.modify (List.modify (List.modify x3 (Int.toNat x2) (fun z => (x1, z.2))) (Int.toNat x2) (fun z => (z.1, ((IntKind.wrap .i64 (x1 + (1 : Int))), z.2.2)))) (Int.toNat x2) (fun z => (z.1, (z.2.1, ((IntKind.wrap .i64 ((IntKind.wrap .i64 (x1 + (1 : Int))) + (1 : Int))), z.2.2.2))))) (Int.toNat x2) (fun z => (z.1, (z.2.1, (z.2.2.1, ((IntKind.wrap .i64 ((IntKind.wrap .i64 ((IntKind.wrap .i64 (x1 + (1 : Int))) + (1 : Int))) + (1 : Int))), z.2.2.2.2)))))) (Int.toNat x2) (fun z => (z.1, (z.2.1, (z.2.2.1, (z.2.2.2.1, ((IntKind.wrap .i64 ((IntKind.wrap .i64 ((IntKind.wrap .i64 ((IntKind.wrap .i64 (x1 + (1 : Int))) + (1 : Int))) + (1 : Int))) + (1 : Int))), z.2.2.2.2.2))))))) (Int.toNat x2) (fun z => (z.1, (z.2.1, (z.2.2.1, (z.2.2.2.1, (z.2.2.2.2.1, ((IntKind.wrap .i64 ((IntKind.wrap .i64 ((IntKind.wrap .i64 ((IntKind.wrap .i64 ((IntKind.wrap .i64 (x1 + (1 : Int))) + (1 : Int))) + (1 : Int))) + (1 : Int))) + (1 : Int))), z.2.2.2.2.2.2)))))))) (Int.toNat x2) (fun z => (z.1, (z.2.1, (z.2.2.1, (z.2.2.2.1, (z.2.2.2.2.1, (z.2.2.2.2.2.1, ((IntKind.wrap .i64 ((IntKind.wrap .i64 ((IntKind.wrap .i64 ((IntKind.wrap .i64 ((IntKind.wrap .i64 ((IntKind.wrap .i64 (x1 + (1 : Int))) + (1 : Int))) + (1 : Int))) + (1 : Int))) + (1 : Int))) + (1 : Int))), z.2.2.2.2.2.2.2))))))))) (Int.toNat x2) (fun z => (z.1, (z.2.1, (z.2.2.1, (z.2.2.2.1, (z.2.2.2.2.1, (z.2.2.2.2.2.1, (z.2.2.2.2.2.2.1, ((laws_markEntryS (List.getD (List.modify (List.modify (List.modify (List.modify (List.modify (List.modify (List.modify x3 (Int.toNat x2) (fun z_1 => (x1, z_1.2))) (Int.toNat x2) (fun z_1 => (z_1.1, ((IntKind.wrap .i64 (x1 + (1 : Int))), z_1.2.2)))) (Int.toNat x2) (fun z_1 => (z_1.1, (z_1.2.1, ((IntKind.wrap .i64 ((IntKind.wrap .i64 (x1 + (1 : Int))) + (1 : Int))), z_1.2.2.2))))) (Int.toNat x2) (fun z_1 => (z_1.1, (z_1.2.1, (z_1.2.2.1, ((IntKind.wrap .i64 ((IntKind.wrap .i64 ((IntKind.wrap .i64 (x1 + (1 : Int))) + (1 : Int))) + (1 : Int))), z_1.2.2.2.2)))))) (Int.toNat x2) (fun z_1 => (z_1.1, (z_1.2.1, (z_1.2.2.1, (z_1.2.2.2.1, ((IntKind.wrap .i64 ((IntKind.wrap .i64 ((IntKind.wrap .i64 ((IntKind.wrap .i64 (x1 + (1 : Int))) + (1 : Int))) + (1 : Int))) + (1 : Int))), z_1.2.2.2.2.2))))))) (Int.toNat x2) (fun z_1 => (z_1.1, (z_1.2.1, (z_1.2.2.1, (z_1.2.2.2.1, (z_1.2.2.2.2.1, ((IntKind.wrap .i64 ((IntKind.wrap .i64 ((IntKind.wrap .i64 ((IntKind.wrap .i64 ((IntKind.wrap .i64 (x1 + (1 : Int))) + (1 : Int))) + (1 : Int))) + (1 : Int))) + (1 : Int))), z_1.2.2.2.2.2.2)))))))) (Int.toNat x2) (fun z_1 => (z_1.1, (z_1.2.1, (z_1.2.2.1, (z_1.2.2.2.1, (z_1.2.2.2.2.1, (z_1.2.2.2.2.2.1, ((IntKind.wrap .i64 ((IntKind.wrap .i64 ((IntKind.wrap .i64 ((IntKind.wrap .i64 ((IntKind.wrap .i64 ((IntKind.wrap .i64 (x1 + (1 : Int))) + (1 : Int))) + (1 : Int))) + (1 : Int))) + (1 : Int))) + (1 : Int))), z_1.2.2.2.2.2.2.2))))))))) (Int.toNat x2) zd5).2.2.2.2.2.2.2.1 (IntKind.wrap .i64 ((IntKind.wrap .i64 ((IntKind.wrap .i64 ((IntKind.wrap .i64 ((IntKind.wrap .i64 ((IntKind.wrap .i64 ((IntKind.wrap .i64 (x1 + (1 : Int))) + (1 : Int))) + (1 : Int))) + (1 : Int))) + (1 : Int))) + (1 : Int))) + (1 : Int)))).1, z.2.2.2.2.2.2.2.2)))))))))) : Nat) : Int))) = true then
 letB (laws_markEntryS (List.getD (List.modify (List.modify (List.modify (List.modify (List.modify (List.modify (List.modify x3 (Int.toNat x2) (fun z => (x1, z.2))) (Int.toNat x2) (fun z => (z.1, ((IntKind.wrap .i64 (x1 + (1 : Int))), z.2.2)))) (Int.toNat x2) (fun z => (z.1, (z.2.1, ((IntKind.wrap .i64 ((IntKind.wrap .i64 (x1 + (1 : Int))) + (1 : Int))), z.2.2.2))))) (Int.toNat x2) (fun z => (z.1, (z.2.1, (z.2.2.1, ((IntKind.wrap .i64 ((IntKind.wrap .i64 ((IntKind.wrap .i64 (x1 + (1 : Int))) + (1 : Int))) + (1 : Int))), z.2.2.2.2)))))) (Int.toNat x2) (fun z => (z.1, (z.2.1, (z.2.2.1, (z.2.2.2.1, ((IntKind.wrap .i64 ((IntKind.wrap .i64 ((IntKind.wrap .i64 ((IntKind.wrap .i64 (x1 + (1 : Int))) + (1 : Int))) + (1 : Int))) + (1 : Int))), z.2.2.2.2.2))))))) (Int.toNat x2) (fun z => (z.1, (z.2.1, (z.2.2.1, (z.2.2.2.1, (z.2.2.2.2.1, ((IntKind.wrap .i64 ((IntKind.wrap .i64 ((IntKind.wrap .i64 ((IntKind.wrap .i64 ((IntKind.wrap .i64 (x1 + (1 : Int))) + (1 : Int))) + (1 : Int))) + (1 : Int))) + (1 : Int))), z.2.2.2.2.2.2)))))))) (Int.toNat x2) (fun z => (z.1, (z.2.1, (z.2.2.1, (z.2.2.2.1, (z.2.2.2.2.1, (z.2.2.2.2.2.1, ((IntKind.wrap .i64 ((IntKind.wrap .i64 ((IntKind.wrap .i64 ((IntKind.wrap .i64 ((IntKind.wrap .i64 ((IntKind.wrap .i64 (x1 + (1 : Int))) + (1 : Int))) + (1 : Int))) + (1 : Int))) + (1 : Int))) + (1 : Int))), z.2.2.2.2.2.2.2))))))))) (Int.toNat x2) zd5).2.2.2.2.2.2.2.1 (IntKind.wrap .i64 ((IntKind.wrap .i64 ((IntKind.wrap .i64 ((IntKind.wrap .i64 ((IntKind.wrap .i64 ((IntKind.wrap .i64 ((IntKind.wrap .i64 (x1 + (1 : Int))) + (1 : Int))) + (1 : Int))) + (1 : Int))) + (1 : Int))) + (1 : Int))) + (1 : Int)))) fun v1 =>
 if (laws_markText.pre (IntKind.wrap .i64 (v1.2 + (1 : Int)))) = true then
 if (decide ((0 : Int) ≤ x2)) = true then
 if (decide (x2 < ((List.length (List.modify (List.modify (List.modify (List.modify (List.modify (List.modify (List.modify (List.modify (List.modify x3 (Int.toNat x2) (fun z => (x1, z.2))) (Int.toNat x2) (fun z => (z.1, ((IntKind.wrap .i64 (x1 + (1 : Int))), z.2.2)))) (Int.toNat x2) (fun z => (z.1, (z.2.1, ((IntKind.wrap .i64 ((IntKind.wrap .i64 (x1 + (1 : Int))) + (1 : Int))), z.2.2.2))))) (Int.toNat x2) (fun z => (z.1, (z.2.1, (z.2.2.1, ((IntKind.wrap .i64 ((IntKind.wrap .i64 ((IntKind.wrap .i64 (x1 + (1 : Int))) + (1 : Int))) + (1 : Int))), z.2.2.2.2)))))) (Int.toNat x2) (fun z => (z.1, (z.2.1, (z.2.2.1, (z.2.2.2.1, ((IntKind.wrap .i64 ((IntKind.wrap .i64 ((IntKind.wrap .i64 ((IntKind.wrap .i64 (x1 + (1 : Int))) + (1 : Int))) + (1 : Int))) + (1 : Int))), z.2.2.2.2.2))))))) (Int.toNat x2) (fun z => (z.1, (z.2.1, (z.2.2.1, (z.2.2.2.1, (z.2.2.2.2.1, ((IntKind.wrap .i64 ((IntKind.wrap .i64 ((IntKind.wrap .i64 ((IntKind.wrap .i64 ((IntKind.wrap .i64 (x1 + (1 : Int))) + (1 : Int))) + (1 : Int))) + (1 : Int))) + (1 : Int))), z.2.2.2.2.2.2)))))))) (Int.toNat x2) (fun z => (z.1, (z.2.1, (z.2.2.1, (z.2.2.2.1, (z.2.2.2.2.1, (z.2.2.2.2.2.1, ((IntKind.wrap .i64 ((IntKind.wrap .i64 ((IntKind.wrap .i64 ((IntKind.wrap .i64 ((IntKind.wrap .i64 ((IntKind.wrap .i64 (x1 + (1 : Int))) + (1 : Int))) + (1 : Int))) + (1 : Int))) + (1 : Int))) + (1 : Int))), z.2.2.2.2.2.2.2))))))))) (Int.toNat x2) (fun z => (z.1, (z.2.1, (z.2.2.1, (z.2.2.2.1, (z.2.2.2.2.1, (z.2.2.2.2.2.1, (z.2.2.2.2.2.2.1, (v1.1, z.2.2.2.2.2.2.2.2)))))))))) (Int.toNat x2) (fun z => (z.1, (z.2.1, (z.2.2.1, (z.2.2.2.1, (z.2.2.2.2.1, (z.2.2.2.2.2.1, (z.2.2.2.2.2.2.1, (z.2.2.2.2.2.2.2.1, ((decide ((Int.tmod v1.2 (3 : Int)) = (0 : Int))), z.2.2.2.2.2.2.2.2.2))))))))))) : Nat) : Int))) = true then
 some (.inl ((IntKind.wrap .i64 ((IntKind.wrap .i64 (v1.2 + (1 : Int))) + (1 : Int))), ((IntKind.wrap .i64 (x2 + (1 : Int))), ((List.modify (List.modify (List.modify (List.modify (List.modify (List.modify (List.modify (List.modify (List.modify (List.modify x3 (Int.toNat x2) (fun z => (x1, z.2))) (Int.toNat x2) (fun z => (z.1, ((IntKind.wrap .i64 (x1 + (1 : Int))), z.2.2)))) (Int.toNat x2) (fun z => (z.1, (z.2.1, ((IntKind.wrap .i64 ((IntKind.wrap .i64 (x1 + (1 : Int))) + (1 : Int))), z.2.2.2))))) (Int.toNat x2) (fun z => (z.1, (z.2.1, (z.2.2.1, ((IntKind.wrap .i64 ((IntKind.wrap .i64 ((IntKind.wrap .i64 (x1 + (1 : Int))) + (1 : Int))) + (1 : Int))), z.2.2.2.2)))))) (Int.toNat x2) (fun z => (z.1, (z.2.1, (z.2.2.1, (z.2.2.2.1, ((IntKind.wrap .i64 ((IntKind.wrap .i64 ((IntKind.wrap .i64 ((IntKind.wrap .i64 (x1 + (1 : Int))) + (1 : Int))) + (1 : Int))) + (1 : Int))), z.2.2.2.2.2))))))) (Int.toNat x2) (fun z => (z.1, (z.2.1, (z.2.2.1, (z.2.2.2.1, (z.2.2.2.2.1, ((IntKind.wrap .i64 ((IntKind.wrap .i64 ((IntKind.wrap .i64 ((IntKind.wrap .i64 ((IntKind.wrap .i64 (x1 + (1 : Int))) + (1 : Int))) + (1 : Int))) + (1 : Int))) + (1 : Int))), z.2.2.2.2.2.2)))))))) (Int.toNat x2) (fun z => (z.1, (z.2.1, (z.2.2.1, (z.2.2.2.1, (z.2.2.2.2.1, (z.2.2.2.2.2.1, ((IntKind.wrap .i64 ((IntKind.wrap .i64 ((IntKind.wrap .i64 ((IntKind.wrap .i64 ((IntKind.wrap .i64 ((IntKind.wrap .i64 (x1 + (1 : Int))) + (1 : Int))) + (1 : Int))) + (1 : Int))) + (1 : Int))) + (1 : Int))), z.2.2.2.2.2.2.2))))))))) (Int.toNat x2) (fun z => (z.1, (z.2.1, (z.2.2.1, (z.2.2.2.1, (z.2.2.2.2.1, (z.2.2.2.2.2.1, (z.2.2.2.2.2.2.1, (v1.1, z.2.2.2.2.2.2.2.2)))))))))) (Int.toNat x2) (fun z => (z.1, (z.2.1, (z.2.2.1, (z.2.2.2.1, (z.2.2.2.2.1, (z.2.2.2.2.2.1, (z.2.2.2.2.2.2.1, (z.2.2.2.2.2.2.2.1, ((decide ((Int.tmod v1.2 (3 : Int)) = (0 : Int))), z.2.2.2.2.2.2.2.2.2))))))))))) (Int.toNat x2) (fun z => (z.1, (z.2.1, (z.2.2.1, (z.2.2.2.1, (z.2.2.2.2.1, (z.2.2.2.2.2.1, (z.2.2.2.2.2.2.1, (z.2.2.2.2.2.2.2.1, (z.2.2.2.2.2.2.2.2.1, ((laws_markText (IntKind.wrap .i64 (v1.2 + (1 : Int)))), z.2.2.2.2.2.2.2.2.2.2)))))))))))), ()))))
 else
 none
 else
 none
 else
 none
 else
 none
 else
 none
 else
 none
 else
 none
 else
 none
 else
 none
 else
 none
 else
 none
 else
 none
 else
 none
 else
 none
 else
 none
 else
 none
 else
 none
 else
 none
 else
 none
 else
 none
 else
 none
 else
 none
 else
 none
 else
 some (.inr (x1, (x3, ())))
abbrev wf (x0 : (List zt4)) (x1 : Int) : Prop := wfA [(.mut (.sl 0 zk8)), (.val (.int .i64) .f)] (x0, (x1, ()))
noncomputable def raw (x0 : (List zt4)) (x1 : Int) : Option (((List zt4) × Unit) × (Int × Unit)) :=
 if (laws_markRpcS.pre2 (x1, ((0 : Int), (x0, ())))) = true then
 letB (laws_markRpcS.fn2 (x1, ((0 : Int), (x0, ())))) fun v1 =>
 some (v1.2, (v1.1, ()))
 else
 none
theorem ok2 (x1 x2 : Int) (x3 : List Rpc) (hp : pre2 (x1, (x2, (x3, ()))) = true) : Rounds pre2 mu2 fn2 (x1, (x2, (x3, ()))) (raw2 x1 x2 x3) := by
 unfold raw2
 by_cases hlt : x2 < (x3.length : Int)
 · obtain ⟨h0, hk, hc, hn⟩ := mk_facts mk_Rpc_ok hp hlt zd5
   generalize he : x3.getD x2.toNat zd5 = e at hc
   simp only [cnt_Rpc] at hc
   have n7 := cntL_nn mk_Entry_ok e.2.2.2.2.2.2.2.1
   have w0 : IntKind.wrap .i64 (x1 + 1) = x1 + 1 := w64 (by omega) (by omega)
   have w1 : IntKind.wrap .i64 (x1 + 1 + 1) = x1 + 1 + 1 := w64 (by omega) (by omega)
   have w2 : IntKind.wrap .i64 (x1 + 1 + 1 + 1) = x1 + 1 + 1 + 1 := w64 (by omega) (by omega)
   have w3 : IntKind.wrap .i64 (x1 + 1 + 1 + 1 + 1) = x1 + 1 + 1 + 1 + 1 := w64 (by omega) (by omega)
   have w4 : IntKind.wrap .i64 (x1 + 1 + 1 + 1 + 1 + 1) = x1 + 1 + 1 + 1 + 1 + 1 := w64 (by omega) (by omega)
   have w5 : IntKind.wrap .i64 (x1 + 1 + 1 + 1 + 1 + 1 + 1) = x1 + 1 + 1 + 1 + 1 + 1 + 1 := w64 (by omega) (by omega)
   have w6 : IntKind.wrap .i64 (x1 + 1 + 1 + 1 + 1 + 1 + 1 + 1) = x1 + 1 + 1 + 1 + 1 + 1 + 1 + 1 := w64 (by omega) (by omega)
   have q7 : laws_markEntryS.pre e.2.2.2.2.2.2.2.1 (x1 + 1 + 1 + 1 + 1 + 1 + 1 + 1) = true := markEntryS_pre (by omega) (by omega)
   have w8 : IntKind.wrap .i64 (x1 + 1 + 1 + 1 + 1 + 1 + 1 + 1 + cntL cnt_Entry e.2.2.2.2.2.2.2.1 + 1) = x1 + 1 + 1 + 1 + 1 + 1 + 1 + 1 + cntL cnt_Entry e.2.2.2.2.2.2.2.1 + 1 := w64 (by omega) (by omega)
   have w9 : IntKind.wrap .i64 (x1 + 1 + 1 + 1 + 1 + 1 + 1 + 1 + cntL cnt_Entry e.2.2.2.2.2.2.2.1 + 1 + 1) = x1 + 1 + 1 + 1 + 1 + 1 + 1 + 1 + cntL cnt_Entry e.2.2.2.2.2.2.2.1 + 1 + 1 := w64 (by omega) (by omega)
   have p9 : laws_markText.pre (x1 + 1 + 1 + 1 + 1 + 1 + 1 + 1 + cntL cnt_Entry e.2.2.2.2.2.2.2.1 + 1) = true := by simp only [laws_markText.pre, decide_eq_true_eq]; omega
   simp only [letB, List.length_modify, List.modify_modify_eq, getD_modify hn, Function.comp, hlt, h0, he, decide_true, if_true, w0, w1, w2, w3, w4, w5, w6, q7, w8, w9, p9, markEntryS_eq]
   exact mk_step mk_Rpc_ok hp hlt zd5 (by rw [he]; simp only [cnt_Rpc]; omega) (by rw [he]; rfl)
 · rw [if_neg (by simp [hlt])]; exact mk_end hp hlt
theorem eq (x0 : List Rpc) (x1 : Int) (_ : wf x0 x1) (hp : pre x0 x1 = true) : raw x0 x1 = some (((laws_markRpcS x0 x1).1, ()), ((laws_markRpcS x0 x1).2, ())) := by
 unfold raw
 rw [if_pos (show pre2 _ = true from mk_start mk_Rpc_ok hp)]
 rfl
end laws_markRpcS
theorem markRpcS_eq (xs : List Rpc) (k : Int) : laws_markRpcS xs k = (mkL mk_Rpc cnt_Rpc xs k, k + cntL cnt_Rpc xs) := rfl
theorem markRpcS_pre {xs : List Rpc} {k : Int} (h0 : 0 ≤ k) (h1 : k + cntL cnt_Rpc xs ≤ 134217728) : laws_markRpcS.pre xs k = true := mPre_iff.2 ⟨h0, h1⟩
noncomputable def laws_heldRpcS (xs : List Rpc) (k : Int) : Int := heldN (mkL mk_Rpc cnt_Rpc) (cntL cnt_Rpc) xs k
namespace laws_heldRpcS
def pre (xs : List Rpc) (k : Int) : Bool := mPre cnt_Rpc xs k
def pre2 := hePre cnt_Rpc
noncomputable def fn2 := heFn mk_Rpc cnt_Rpc
def mu2 := heMu (α := Rpc)
noncomputable def raw2 (x1 : (List zt4)) (x2 : Int) (x3 : Int) : Option (((List zt4) × Mark) ⊕ ((Int × Unit) ⊕ (Int × Unit))) :=
 if (decide (x3 < ((List.length x1 : Nat) : Int))) = true then
 if (decide ((0 : Int) ≤ x3)) = true then
 if (decide (x3 < ((List.length x1 : Nat) : Int))) = true then
 if (!(decide ((List.getD x1 (Int.toNat x3) zd5).1 = x2))) = true then
 some (.inr (.inl ((-1 : Int), ())))
 else
 if (decide ((0 : Int) ≤ x3)) = true then
 if (decide (x3 < ((List.length x1 : Nat) : Int))) = true then
 if (!(decide ((List.getD x1 (Int.toNat x3) zd5).2.1 = (IntKind.wrap .i64 (x2 + (1 : Int)))))) = true then
 some (.inr (.inl ((-1 : Int), ())))
 else
 if (decide ((0 : Int) ≤ x3)) = true then
 if (decide (x3 < ((List.length x1 : Nat) : Int))) = true then
 if (!(decide ((List.getD x1 (Int.toNat x3) zd5).2.2.1 = (IntKind.wrap .i64 ((IntKind.wrap .i64 (x2 + (1 : Int))) + (1 : Int)))))) = true then
 some (.inr (.inl ((-1 : Int), ())))
 else
 if (decide ((0 : Int) ≤ x3)) = true then
 if (decide (x3 < ((List.length x1 : Nat) : Int))) = true then
 if (!(decide ((List.getD x1 (Int.toNat x3) zd5).2.2.2.1 = (IntKind.wrap .i64 ((IntKind.wrap .i64 ((IntKind.wrap .i64 (x2 + (1 : Int))) + (1 : Int))) + (1 : Int)))))) = true then
 some (.inr (.inl ((-1 : Int), ())))
 else
 if (decide ((0 : Int) ≤ x3)) = true then
 if (decide (x3 < ((List.length x1 : Nat) : Int))) = true then
 if (!(decide ((List.getD x1 (Int.toNat x3) zd5).2.2.2.2.1 = (IntKind.wrap .i64 ((IntKind.wrap .i64 ((IntKind.wrap .i64 ((IntKind.wrap .i64 (x2 + (1 : Int))) + (1 : Int))) + (1 : Int))) + (1 : Int)))))) = true then
 some (.inr (.inl ((-1 : Int), ())))
 else
 if (decide ((0 : Int) ≤ x3)) = true then
 if (decide (x3 < ((List.length x1 : Nat) : Int))) = true then
 if (!(decide ((List.getD x1 (Int.toNat x3) zd5).2.2.2.2.2.1 = (IntKind.wrap .i64 ((IntKind.wrap .i64 ((IntKind.wrap .i64 ((IntKind.wrap .i64 ((IntKind.wrap .i64 (x2 + (1 : Int))) + (1 : Int))) + (1 : Int))) + (1 : Int))) + (1 : Int)))))) = true then
 some (.inr (.inl ((-1 : Int), ())))
 else
 if (decide ((0 : Int) ≤ x3)) = true then
 if (decide (x3 < ((List.length x1 : Nat) : Int))) = true then
 if (!(decide ((List.getD x1 (Int.toNat x3) zd5).2.2.2.2.2.2.1 = (IntKind.wrap .i64 ((IntKind.wrap .i64 ((IntKind.wrap .i64 ((IntKind.wrap .i64 ((IntKind.wrap .i64 ((IntKind.wrap .i64 (x2 + (1 : Int))) + (1 : Int))) + (1 : Int))) + (1 : Int))) + (1 : Int))) + (1 : Int)))))) = true then
 some (.inr (.inl ((-1 : Int), ())))
 else
 if (decide ((0 : Int) ≤ x3)) = true then
 if (decide (x3 < ((List.length x1 : Nat) : Int))) = true then
 if (laws_heldEntryS.pre (List.getD x1 (Int.toNat x3) zd5).2.2.2.2.2.2.2.1 (IntKind.wrap .i64 ((IntKind.wrap .i64 ((IntKind.wrap .i64 ((IntKind.wrap .i64 ((IntKind.wrap .i64 ((IntKind.wrap .i64 ((IntKind.wrap .i64 (x2 + (1 : Int))) + (1 : Int))) + (1 : Int))) + (1 : Int))) + (1 : Int))) + (1 : Int))) + (1 : Int)))) = true then
 letB (laws_heldEntryS (List.getD x1 (Int.toNat x3) zd5).2.2.2.2.2.2.2.1 (IntKind.wrap .i64 ((IntKind.wrap .i64 ((IntKind.wrap .i64 ((IntKind.wrap .i64 ((IntKind.wrap .i64 ((IntKind.wrap .i64 ((IntKind.wrap .i64 (x2 + (1 : Int))) + (1 : Int))) + (1 : Int))) + (1 : Int))) + (1 : Int))) + (1 : Int))) + (1 : Int)))) fun v1 =>
 if (decide (v1 < (0 : Int))) = true then
 some (.inr (.inl ((-1 : Int), ())))
 else
 if (decide ((0 : Int) ≤ x3)) = true then
 if (decide (x3 < ((List.length x1 : Nat) : Int))) = true then
 if (!(decide ((3 : Int) = (0 : Int)))) = true then
 if (!((List.getD x1 (Int.toNat x3) zd5).2.2.2.2.2.2.2.2.1 == (decide ((Int.tmod v1 (3 : Int)) = (0 : Int))))) = true then
 some (.inr (.inl ((-1 : Int), ())))
 else
 if (decide ((0 : Int) ≤ x3)) = true then
 if (decide (x3 < ((List.length x1 : Nat) : Int))) = true then
 if (laws_markText.pre (IntKind.wrap .i64 (v1 + (1 : Int)))) = true then
 letB (laws_markText (IntKind.wrap .i64 (v1 + (1 : Int)))) fun v2 =>
 if (!((List.getD x1 (Int.toNat x3) zd5).2.2.2.2.2.2.2.2.2.1 == v2)) = true then
 some (.inr (.inl ((-1 : Int), ())))
 else
 some (.inl (x1, ((IntKind.wrap .i64 ((IntKind.wrap .i64 (v1 + (1 : Int))) + (1 : Int))), ((IntKind.wrap .i64 (x3 + (1 : Int))), ()))))
 else
 none
 else
 none
 else
 none
 else
 none
 else
 none
 else
 none
 else
 none
 else
 none
 else
 none
 else
 none
 else
 none
 else
 none
 else
 none
 else
 none
 else
 none
 else
 none
 else
 none
 else
 none
 else
 none
 else
 none
 else
 none
 else
 none
 else
 none
 else
 some (.inr (.inr (x2, ())))
abbrev wf (x0 : (List zt4)) (x1 : Int) : Prop := wfA [(.val (.sl 0 zk8) .f), (.val (.int .i64) .f)] (x0, (x1, ()))
noncomputable def raw (x0 : (List zt4)) (x1 : Int) : Option zt28 :=
 if (laws_heldRpcS.pre2 (x0, (x1, ((0 : Int), ())))) = true then
  letB (laws_heldRpcS.fn2 (x0, (x1, ((0 : Int), ())))) fun v1 =>
  match v1 with
  | .inl y =>
   some ((), y)
  | .inr y =>
   some ((), y)
 else
  none
theorem ok2 (x1 : List Rpc) (x2 x3 : Int) (hp : pre2 (x1, (x2, (x3, ()))) = true) : Rounds pre2 mu2 fn2 (x1, (x2, (x3, ()))) (raw2 x1 x2 x3) := by
 unfold raw2
 by_cases hlt : x3 < (x1.length : Int)
 · obtain ⟨h0, hk, hc⟩ := he_facts mk_Rpc_ok hp hlt zd5
   have bad := he_bad (m := mk_Rpc) (g := cnt_Rpc) hp hlt zd5
   have good := fun K hK => he_good mk_Rpc_ok (K := K) hp hlt zd5 hK
   generalize x1.getD x3.toNat zd5 = e at *
   simp only [cnt_Rpc] at hc
   have n7 := cntL_nn mk_Entry_ok e.2.2.2.2.2.2.2.1
   have w0 : IntKind.wrap .i64 (x2 + 1) = x2 + 1 := w64 (by omega) (by omega)
   have w1 : IntKind.wrap .i64 (x2 + 1 + 1) = x2 + 1 + 1 := w64 (by omega) (by omega)
   have w2 : IntKind.wrap .i64 (x2 + 1 + 1 + 1) = x2 + 1 + 1 + 1 := w64 (by omega) (by omega)
   have w3 : IntKind.wrap .i64 (x2 + 1 + 1 + 1 + 1) = x2 + 1 + 1 + 1 + 1 := w64 (by omega) (by omega)
   have w4 : IntKind.wrap .i64 (x2 + 1 + 1 + 1 + 1 + 1) = x2 + 1 + 1 + 1 + 1 + 1 := w64 (by omega) (by omega)
   have w5 : IntKind.wrap .i64 (x2 + 1 + 1 + 1 + 1 + 1 + 1) = x2 + 1 + 1 + 1 + 1 + 1 + 1 := w64 (by omega) (by omega)
   have w6 : IntKind.wrap .i64 (x2 + 1 + 1 + 1 + 1 + 1 + 1 + 1) = x2 + 1 + 1 + 1 + 1 + 1 + 1 + 1 := w64 (by omega) (by omega)
   have q7 : laws_heldEntryS.pre e.2.2.2.2.2.2.2.1 (x2 + 1 + 1 + 1 + 1 + 1 + 1 + 1) = true := heldEntryS_pre (by omega) (by omega)
   have w8 : IntKind.wrap .i64 (x2 + 1 + 1 + 1 + 1 + 1 + 1 + 1 + cntL cnt_Entry e.2.2.2.2.2.2.2.1 + 1) = x2 + 1 + 1 + 1 + 1 + 1 + 1 + 1 + cntL cnt_Entry e.2.2.2.2.2.2.2.1 + 1 := w64 (by omega) (by omega)
   have w9 : IntKind.wrap .i64 (x2 + 1 + 1 + 1 + 1 + 1 + 1 + 1 + cntL cnt_Entry e.2.2.2.2.2.2.2.1 + 1 + 1) = x2 + 1 + 1 + 1 + 1 + 1 + 1 + 1 + cntL cnt_Entry e.2.2.2.2.2.2.2.1 + 1 + 1 := w64 (by omega) (by omega)
   have p9 : laws_markText.pre (x2 + 1 + 1 + 1 + 1 + 1 + 1 + 1 + cntL cnt_Entry e.2.2.2.2.2.2.2.1 + 1) = true := by simp only [laws_markText.pre, decide_eq_true_eq]; omega
   simp only [letB, hlt, h0, decide_true, if_true, w0, w1, w2, w3, w4, w5, w6, q7, w8, w9, p9]
   by_cases c0 : e.1 = x2
   case neg => rw [if_pos (by simp [c0])]; exact bad fun h => c0 (congrArg (fun z : Rpc => z.1) h)
   rw [if_neg (by simp [c0])]
   by_cases c1 : e.2.1 = x2 + 1
   case neg => rw [if_pos (by simp [c1])]; exact bad fun h => c1 (congrArg (fun z : Rpc => z.2.1) h)
   rw [if_neg (by simp [c1])]
   by_cases c2 : e.2.2.1 = x2 + 1 + 1
   case neg => rw [if_pos (by simp [c2])]; exact bad fun h => c2 (congrArg (fun z : Rpc => z.2.2.1) h)
   rw [if_neg (by simp [c2])]
   by_cases c3 : e.2.2.2.1 = x2 + 1 + 1 + 1
   case neg => rw [if_pos (by simp [c3])]; exact bad fun h => c3 (congrArg (fun z : Rpc => z.2.2.2.1) h)
   rw [if_neg (by simp [c3])]
   by_cases c4 : e.2.2.2.2.1 = x2 + 1 + 1 + 1 + 1
   case neg => rw [if_pos (by simp [c4])]; exact bad fun h => c4 (congrArg (fun z : Rpc => z.2.2.2.2.1) h)
   rw [if_neg (by simp [c4])]
   by_cases c5 : e.2.2.2.2.2.1 = x2 + 1 + 1 + 1 + 1 + 1
   case neg => rw [if_pos (by simp [c5])]; exact bad fun h => c5 (congrArg (fun z : Rpc => z.2.2.2.2.2.1) h)
   rw [if_neg (by simp [c5])]
   by_cases c6 : e.2.2.2.2.2.2.1 = x2 + 1 + 1 + 1 + 1 + 1 + 1
   case neg => rw [if_pos (by simp [c6])]; exact bad fun h => c6 (congrArg (fun z : Rpc => z.2.2.2.2.2.2.1) h)
   rw [if_neg (by simp [c6])]
   by_cases c7 : e.2.2.2.2.2.2.2.1 = mkL mk_Entry cnt_Entry e.2.2.2.2.2.2.2.1 (x2 + 1 + 1 + 1 + 1 + 1 + 1 + 1)
   case neg => rw [show laws_heldEntryS e.2.2.2.2.2.2.2.1 (x2 + 1 + 1 + 1 + 1 + 1 + 1 + 1) = -1 from heldEntryS_neg c7, if_pos (by decide)]; exact bad fun h => c7 ((congrArg (fun z : Rpc => z.2.2.2.2.2.2.2.1) h).trans (by simp only [mk_Rpc]))
   rw [show laws_heldEntryS e.2.2.2.2.2.2.2.1 (x2 + 1 + 1 + 1 + 1 + 1 + 1 + 1) = x2 + 1 + 1 + 1 + 1 + 1 + 1 + 1 + cntL cnt_Entry e.2.2.2.2.2.2.2.1 from heldEntryS_pos c7, if_neg (by rw [decide_eq_true_eq]; omega)]
   try simp only [if_true, w0, w1, w2, w3, w4, w5, w6, q7, w8, w9, p9]
   by_cases c8 : e.2.2.2.2.2.2.2.2.1 = decide (Int.tmod (x2 + 1 + 1 + 1 + 1 + 1 + 1 + 1 + cntL cnt_Entry e.2.2.2.2.2.2.2.1) 3 = 0)
   case neg =>
    try rw [if_pos (show (!decide ((3 : Int) = 0)) = true from rfl)]
    rw [if_pos (by rw [beq_false_of_ne c8]; rfl)]; exact bad fun h => c8 (congrArg (fun z : Rpc => z.2.2.2.2.2.2.2.2.1) h)
   try rw [if_pos (show (!decide ((3 : Int) = 0)) = true from rfl)]
   rw [if_neg (by rw [c8, beq_self_eq_true]; decide)]
   by_cases c9 : e.2.2.2.2.2.2.2.2.2.1 = laws_markText (x2 + 1 + 1 + 1 + 1 + 1 + 1 + 1 + cntL cnt_Entry e.2.2.2.2.2.2.2.1 + 1)
   case neg => rw [if_pos (by simp [c9])]; exact bad fun h => c9 (congrArg (fun z : Rpc => z.2.2.2.2.2.2.2.2.2.1) h)
   rw [if_neg (by simp [c9])]
   exact good _ (by simp only [cnt_Rpc]; omega) (Prod.ext c0 (Prod.ext c1 (Prod.ext c2 (Prod.ext c3 (Prod.ext c4 (Prod.ext c5 (Prod.ext c6 (Prod.ext c7 (Prod.ext c8 (Prod.ext c9 rfl))))))))))
 · rw [if_neg (by simp [hlt])]; exact he_end hp hlt
theorem eq (x0 : List Rpc) (x1 : Int) (_ : wf x0 x1) (hp : pre x0 x1 = true) : raw x0 x1 = some ((), (laws_heldRpcS x0 x1, ())) := by
 unfold raw
 rw [if_pos (show pre2 _ = true from he_start mk_Rpc_ok hp)]
 exact heFn_start x0 x1
end laws_heldRpcS
theorem heldRpcS_pos {xs : List Rpc} {k : Int} (h : xs = mkL mk_Rpc cnt_Rpc xs k) : laws_heldRpcS xs k = k + cntL cnt_Rpc xs := heldN_pos h
theorem heldRpcS_neg {xs : List Rpc} {k : Int} (h : ¬ xs = mkL mk_Rpc cnt_Rpc xs k) : laws_heldRpcS xs k = -1 := heldN_neg h
theorem heldRpcS_pre {xs : List Rpc} {k : Int} (h0 : 0 ≤ k) (h1 : k + cntL cnt_Rpc xs ≤ 134217728) : laws_heldRpcS.pre xs k = true := mPre_iff.2 ⟨h0, h1⟩
def mkT_Peer (x : Peer) (k : Int) : Peer := (x.1, (mkT_Hard x.2.1 (k), (x.2.2.1, (mkL mk_Bool cnt_Bool x.2.2.2.1 (k + cntT_Hard x.2.1), (mkL mk_Int cnt_Int x.2.2.2.2.1 (k + cntT_Hard x.2.1 + cntL cnt_Bool x.2.2.2.1), (mkL mk_Int cnt_Int x.2.2.2.2.2.1 (k + cntT_Hard x.2.1 + cntL cnt_Bool x.2.2.2.1 + cntL cnt_Int x.2.2.2.2.1), (x.2.2.2.2.2.2.1, (mkT_Keep x.2.2.2.2.2.2.2.1 (k + cntT_Hard x.2.1 + cntL cnt_Bool x.2.2.2.1 + cntL cnt_Int x.2.2.2.2.1 + cntL cnt_Int x.2.2.2.2.2.1), (mkT_Disk x.2.2.2.2.2.2.2.2.1 (k + cntT_Hard x.2.1 + cntL cnt_Bool x.2.2.2.1 + cntL cnt_Int x.2.2.2.2.1 + cntL cnt_Int x.2.2.2.2.2.1 + cntT_Keep x.2.2.2.2.2.2.2.1), (mkL mk_Rpc cnt_Rpc x.2.2.2.2.2.2.2.2.2.1 (k + cntT_Hard x.2.1 + cntL cnt_Bool x.2.2.2.1 + cntL cnt_Int x.2.2.2.2.1 + cntL cnt_Int x.2.2.2.2.2.1 + cntT_Keep x.2.2.2.2.2.2.2.1 + cntT_Disk x.2.2.2.2.2.2.2.2.1), ()))))))))))
def cntT_Peer (x : Peer) : Int := cntT_Hard x.2.1 + cntL cnt_Bool x.2.2.2.1 + cntL cnt_Int x.2.2.2.2.1 + cntL cnt_Int x.2.2.2.2.2.1 + cntT_Keep x.2.2.2.2.2.2.2.1 + cntT_Disk x.2.2.2.2.2.2.2.2.1 + cntL cnt_Rpc x.2.2.2.2.2.2.2.2.2.1
theorem cntT_Peer_nn (x : Peer) : 0 ≤ cntT_Peer x := by
 have n1 := cntT_Hard_nn x.2.1
 have n3 := cntL_nn mk_Bool_ok x.2.2.2.1
 have n4 := cntL_nn mk_Int_ok x.2.2.2.2.1
 have n5 := cntL_nn mk_Int_ok x.2.2.2.2.2.1
 have n7 := cntT_Keep_nn x.2.2.2.2.2.2.2.1
 have n8 := cntT_Disk_nn x.2.2.2.2.2.2.2.2.1
 have n9 := cntL_nn mk_Rpc_ok x.2.2.2.2.2.2.2.2.2.1
 simp only [cntT_Peer]; omega
theorem mkT_Peer_keep (x : Peer) (k : Int) : cntT_Peer (mkT_Peer x k) = cntT_Peer x := by simp only [cntT_Peer, mkT_Peer, cntL_mkL mk_Bool_ok, cntL_mkL mk_Int_ok, cntL_mkL mk_Rpc_ok, mkT_Disk_keep, mkT_Hard_keep, mkT_Keep_keep]
theorem mkT_Peer_idem (x : Peer) (k : Int) : mkT_Peer (mkT_Peer x k) k = mkT_Peer x k := by simp only [mkT_Peer, cntL_mkL mk_Bool_ok, cntL_mkL mk_Int_ok, cntL_mkL mk_Rpc_ok, mkT_Disk_keep, mkT_Hard_keep, mkT_Keep_keep, mkL_mkL mk_Bool_ok, mkL_mkL mk_Int_ok, mkL_mkL mk_Rpc_ok, mkT_Disk_idem, mkT_Hard_idem, mkT_Keep_idem]
noncomputable def laws_eqPeer (a b : Peer) : Bool := same a b
namespace laws_eqPeer
abbrev wf (x0 : zt2) (x1 : zt2) : Prop := wfA [(.val zk12 .f), (.val zk12 .f)] (x0, (x1, ()))
noncomputable def raw (x0 : zt2) (x1 : zt2) : Option zt17 :=
 if (!(decide (x0.1 = x1.1))) = true then
 some ((), (false, ()))
 else
 letB (laws_eqHard x0.2.1 x1.2.1) fun v1 =>
 if (!v1) = true then
 some ((), (false, ()))
 else
 if (!(decide (x0.2.2.1 = x1.2.2.1))) = true then
 some ((), (false, ()))
 else
 letB (laws_eqBoolS x0.2.2.2.1 x1.2.2.2.1) fun v2 =>
 if (!v2) = true then
 some ((), (false, ()))
 else
 letB (laws_eqIntS x0.2.2.2.2.1 x1.2.2.2.2.1) fun v3 =>
 if (!v3) = true then
 some ((), (false, ()))
 else
 letB (laws_eqIntS x0.2.2.2.2.2.1 x1.2.2.2.2.2.1) fun v4 =>
 if (!v4) = true then
 some ((), (false, ()))
 else
 if (!(decide (x0.2.2.2.2.2.2.1 = x1.2.2.2.2.2.2.1))) = true then
 some ((), (false, ()))
 else
 letB (laws_eqKeep x0.2.2.2.2.2.2.2.1 x1.2.2.2.2.2.2.2.1) fun v5 =>
 if (!v5) = true then
 some ((), (false, ()))
 else
 letB (laws_eqDisk x0.2.2.2.2.2.2.2.2.1 x1.2.2.2.2.2.2.2.2.1) fun v6 =>
 if (!v6) = true then
 some ((), (false, ()))
 else
 letB (laws_eqRpcS x0.2.2.2.2.2.2.2.2.2.1 x1.2.2.2.2.2.2.2.2.2.1) fun v7 =>
 if (!v7) = true then
 some ((), (false, ()))
 else
 some ((), (true, ()))
theorem eq (x0 x1 : Peer) (_ : wf x0 x1) : raw x0 x1 = some ((), (laws_eqPeer x0 x1, ())) := by
 unfold raw laws_eqPeer
 try simp only [letB]
 by_cases c0 : x0.1 = x1.1
 case neg => rw [if_pos (by simp [c0]), same_false.2 (fun h => c0 (congrArg (fun z : Peer => z.1) h))]
 rw [if_neg (by simp [c0])]
 by_cases c1 : x0.2.1 = x1.2.1
 case neg => rw [if_pos (by rw [laws_eqHard, same_false.2 c1]; rfl), same_false.2 (fun h => c1 (congrArg (fun z : Peer => z.2.1) h))]
 rw [if_neg (by rw [laws_eqHard, same_true.2 c1]; simp)]
 by_cases c2 : x0.2.2.1 = x1.2.2.1
 case neg => rw [if_pos (by simp [c2]), same_false.2 (fun h => c2 (congrArg (fun z : Peer => z.2.2.1) h))]
 rw [if_neg (by simp [c2])]
 by_cases c3 : x0.2.2.2.1 = x1.2.2.2.1
 case neg => rw [if_pos (by rw [laws_eqBoolS, same_false.2 c3]; rfl), same_false.2 (fun h => c3 (congrArg (fun z : Peer => z.2.2.2.1) h))]
 rw [if_neg (by rw [laws_eqBoolS, same_true.2 c3]; simp)]
 by_cases c4 : x0.2.2.2.2.1 = x1.2.2.2.2.1
 case neg => rw [if_pos (by rw [laws_eqIntS, same_false.2 c4]; rfl), same_false.2 (fun h => c4 (congrArg (fun z : Peer => z.2.2.2.2.1) h))]
 rw [if_neg (by rw [laws_eqIntS, same_true.2 c4]; simp)]
 by_cases c5 : x0.2.2.2.2.2.1 = x1.2.2.2.2.2.1
 case neg => rw [if_pos (by rw [laws_eqIntS, same_false.2 c5]; rfl), same_false.2 (fun h => c5 (congrArg (fun z : Peer => z.2.2.2.2.2.1) h))]
 rw [if_neg (by rw [laws_eqIntS, same_true.2 c5]; simp)]
 by_cases c6 : x0.2.2.2.2.2.2.1 = x1.2.2.2.2.2.2.1
 case neg => rw [if_pos (by simp [c6]), same_false.2 (fun h => c6 (congrArg (fun z : Peer => z.2.2.2.2.2.2.1) h))]
 rw [if_neg (by simp [c6])]
 by_cases c7 : x0.2.2.2.2.2.2.2.1 = x1.2.2.2.2.2.2.2.1
 case neg => rw [if_pos (by rw [laws_eqKeep, same_false.2 c7]; rfl), same_false.2 (fun h => c7 (congrArg (fun z : Peer => z.2.2.2.2.2.2.2.1) h))]
 rw [if_neg (by rw [laws_eqKeep, same_true.2 c7]; simp)]
 by_cases c8 : x0.2.2.2.2.2.2.2.2.1 = x1.2.2.2.2.2.2.2.2.1
 case neg => rw [if_pos (by rw [laws_eqDisk, same_false.2 c8]; rfl), same_false.2 (fun h => c8 (congrArg (fun z : Peer => z.2.2.2.2.2.2.2.2.1) h))]
 rw [if_neg (by rw [laws_eqDisk, same_true.2 c8]; simp)]
 by_cases c9 : x0.2.2.2.2.2.2.2.2.2.1 = x1.2.2.2.2.2.2.2.2.2.1
 case neg => rw [if_pos (by rw [laws_eqRpcS, same_false.2 c9]; rfl), same_false.2 (fun h => c9 (congrArg (fun z : Peer => z.2.2.2.2.2.2.2.2.2.1) h))]
 rw [if_neg (by rw [laws_eqRpcS, same_true.2 c9]; simp)]
 rw [same_true.2 (Prod.ext c0 (Prod.ext c1 (Prod.ext c2 (Prod.ext c3 (Prod.ext c4 (Prod.ext c5 (Prod.ext c6 (Prod.ext c7 (Prod.ext c8 (Prod.ext c9 rfl))))))))))]
end laws_eqPeer
def laws_markPeer (x : Peer) (k : Int) : Peer × Int := (mkT_Peer x k, k + cntT_Peer x)
namespace laws_markPeer
def pre (x : Peer) (k : Int) : Bool := decide (0 ≤ k) && decide (k + cntT_Peer x ≤ 134217728)
abbrev wf (x0 : zt2) (x1 : Int) : Prop := wfA [(.mut zk12), (.val (.int .i64) .f)] (x0, (x1, ()))
noncomputable def raw (x0 : zt2) (x1 : Int) : Option ((zt2 × Unit) × (Int × Unit)) :=
 if (laws_markHard.pre x0.2.1 x1) = true then
 letB (laws_markHard x0.2.1 x1) fun v1 =>
 if (laws_markBoolS.pre x0.2.2.2.1 v1.2) = true then
 letB (laws_markBoolS x0.2.2.2.1 v1.2) fun v2 =>
 if (laws_markIntS.pre x0.2.2.2.2.1 v2.2) = true then
 letB (laws_markIntS x0.2.2.2.2.1 v2.2) fun v3 =>
 if (laws_markIntS.pre x0.2.2.2.2.2.1 v3.2) = true then
 letB (laws_markIntS x0.2.2.2.2.2.1 v3.2) fun v4 =>
 if (laws_markKeep.pre x0.2.2.2.2.2.2.2.1 v4.2) = true then
 letB (laws_markKeep x0.2.2.2.2.2.2.2.1 v4.2) fun v5 =>
 if (laws_markDisk.pre x0.2.2.2.2.2.2.2.2.1 v5.2) = true then
 letB (laws_markDisk x0.2.2.2.2.2.2.2.2.1 v5.2) fun v6 =>
 if (laws_markRpcS.pre x0.2.2.2.2.2.2.2.2.2.1 v6.2) = true then
 letB (laws_markRpcS x0.2.2.2.2.2.2.2.2.2.1 v6.2) fun v7 =>
 some (((x0.1, ((x0.2.1.1, (x0.2.1.2.1, ((x0.2.1.2.2.1.1, (x0.2.1.2.2.1.2.1, (v1.1.2.2.1.2.2.1, x0.2.1.2.2.1.2.2.2))), ((v1.1.2.2.2.1.1, (v1.1.2.2.2.1.2.1, (v1.1.2.2.2.1.2.2.1, (x0.2.1.2.2.2.1.2.2.2.1, (v1.1.2.2.2.1.2.2.2.2.1, (v1.1.2.2.2.1.2.2.2.2.2.1, x0.2.1.2.2.2.1.2.2.2.2.2.2)))))), x0.2.1.2.2.2.2)))), (x0.2.2.1, (v2.1, (v3.1, (v4.1, (x0.2.2.2.2.2.2.1, ((v5.1.1, (v5.1.2.1, (v5.1.2.2.1, (x0.2.2.2.2.2.2.2.1.2.2.2.1, (v5.1.2.2.2.2.1, (v5.1.2.2.2.2.2.1, x0.2.2.2.2.2.2.2.1.2.2.2.2.2.2)))))), ((v6.1.1, x0.2.2.2.2.2.2.2.2.1.2), (v7.1, x0.2.2.2.2.2.2.2.2.2.2)))))))))), ()), (v7.2, ()))
 else
 none
 else
 none
 else
 none
 else
 none
 else
 none
 else
 none
 else
 none
theorem eq (x0 : Peer) (x1 : Int) (_ : wf x0 x1) (hp : pre x0 x1 = true) : raw x0 x1 = some (((laws_markPeer x0 x1).1, ()), ((laws_markPeer x0 x1).2, ())) := by
 simp only [pre, Bool.and_eq_true, decide_eq_true_eq] at hp
 simp only [cntT_Peer] at hp
 have n1 := cntT_Hard_nn x0.2.1
 have n3 := cntL_nn mk_Bool_ok x0.2.2.2.1
 have n4 := cntL_nn mk_Int_ok x0.2.2.2.2.1
 have n5 := cntL_nn mk_Int_ok x0.2.2.2.2.2.1
 have n7 := cntT_Keep_nn x0.2.2.2.2.2.2.2.1
 have n8 := cntT_Disk_nn x0.2.2.2.2.2.2.2.2.1
 have n9 := cntL_nn mk_Rpc_ok x0.2.2.2.2.2.2.2.2.2.1
 have q1 : laws_markHard.pre x0.2.1 (x1) = true := markHard_pre (by omega) (by omega)
 have q3 : laws_markBoolS.pre x0.2.2.2.1 (x1 + cntT_Hard x0.2.1) = true := markBoolS_pre (by omega) (by omega)
 have q4 : laws_markIntS.pre x0.2.2.2.2.1 (x1 + cntT_Hard x0.2.1 + cntL cnt_Bool x0.2.2.2.1) = true := markIntS_pre (by omega) (by omega)
 have q5 : laws_markIntS.pre x0.2.2.2.2.2.1 (x1 + cntT_Hard x0.2.1 + cntL cnt_Bool x0.2.2.2.1 + cntL cnt_Int x0.2.2.2.2.1) = true := markIntS_pre (by omega) (by omega)
 have q7 : laws_markKeep.pre x0.2.2.2.2.2.2.2.1 (x1 + cntT_Hard x0.2.1 + cntL cnt_Bool x0.2.2.2.1 + cntL cnt_Int x0.2.2.2.2.1 + cntL cnt_Int x0.2.2.2.2.2.1) = true := markKeep_pre (by omega) (by omega)
 have q8 : laws_markDisk.pre x0.2.2.2.2.2.2.2.2.1 (x1 + cntT_Hard x0.2.1 + cntL cnt_Bool x0.2.2.2.1 + cntL cnt_Int x0.2.2.2.2.1 + cntL cnt_Int x0.2.2.2.2.2.1 + cntT_Keep x0.2.2.2.2.2.2.2.1) = true := markDisk_pre (by omega) (by omega)
 have q9 : laws_markRpcS.pre x0.2.2.2.2.2.2.2.2.2.1 (x1 + cntT_Hard x0.2.1 + cntL cnt_Bool x0.2.2.2.1 + cntL cnt_Int x0.2.2.2.2.1 + cntL cnt_Int x0.2.2.2.2.2.1 + cntT_Keep x0.2.2.2.2.2.2.2.1 + cntT_Disk x0.2.2.2.2.2.2.2.2.1) = true := markRpcS_pre (by omega) (by omega)
 unfold raw
 simp only [letB, if_true, q1, q3, q4, q5, q7, q8, q9, markBoolS_eq, markDisk_eq, markHard_eq, markIntS_eq, markKeep_eq, markRpcS_eq]
 refine congrArg some (Prod.ext rfl (Prod.ext ?_ rfl))
 show _ = _
 simp only [laws_markPeer, cntT_Peer]; omega
end laws_markPeer
theorem markPeer_pre {x : Peer} {k : Int} (h0 : 0 ≤ k) (h1 : k + cntT_Peer x ≤ 134217728) : laws_markPeer.pre x k = true := by simp [laws_markPeer.pre, h0, h1]
noncomputable def laws_heldPeer (x : Peer) (k : Int) : Int := heldN mkT_Peer cntT_Peer x k
namespace laws_heldPeer
def pre (x : Peer) (k : Int) : Bool := decide (0 ≤ k) && decide (k + cntT_Peer x ≤ 134217728)
abbrev wf (x0 : zt2) (x1 : Int) : Prop := wfA [(.val zk12 .f), (.val (.int .i64) .f)] (x0, (x1, ()))
noncomputable def raw (x0 : zt2) (x1 : Int) : Option zt28 :=
 if (laws_heldHard.pre x0.2.1 x1) = true then
 letB (laws_heldHard x0.2.1 x1) fun v1 =>
 if (decide (v1 < (0 : Int))) = true then
 some ((), ((-1 : Int), ()))
 else
 if (laws_heldBoolS.pre x0.2.2.2.1 v1) = true then
 letB (laws_heldBoolS x0.2.2.2.1 v1) fun v2 =>
 if (decide (v2 < (0 : Int))) = true then
 some ((), ((-1 : Int), ()))
 else
 if (laws_heldIntS.pre x0.2.2.2.2.1 v2) = true then
 letB (laws_heldIntS x0.2.2.2.2.1 v2) fun v3 =>
 if (decide (v3 < (0 : Int))) = true then
 some ((), ((-1 : Int), ()))
 else
 if (laws_heldIntS.pre x0.2.2.2.2.2.1 v3) = true then
 letB (laws_heldIntS x0.2.2.2.2.2.1 v3) fun v4 =>
 if (decide (v4 < (0 : Int))) = true then
 some ((), ((-1 : Int), ()))
 else
 if (laws_heldKeep.pre x0.2.2.2.2.2.2.2.1 v4) = true then
 letB (laws_heldKeep x0.2.2.2.2.2.2.2.1 v4) fun v5 =>
 if (decide (v5 < (0 : Int))) = true then
 some ((), ((-1 : Int), ()))
 else
 if (laws_heldDisk.pre x0.2.2.2.2.2.2.2.2.1 v5) = true then
 letB (laws_heldDisk x0.2.2.2.2.2.2.2.2.1 v5) fun v6 =>
 if (decide (v6 < (0 : Int))) = true then
 some ((), ((-1 : Int), ()))
 else
 if (laws_heldRpcS.pre x0.2.2.2.2.2.2.2.2.2.1 v6) = true then
 letB (laws_heldRpcS x0.2.2.2.2.2.2.2.2.2.1 v6) fun v7 =>
 if (decide (v7 < (0 : Int))) = true then
 some ((), ((-1 : Int), ()))
 else
 some ((), (v7, ()))
 else
 none
 else
 none
 else
 none
 else
 none
 else
 none
 else
 none
 else
 none
theorem eq (x0 : Peer) (x1 : Int) (_ : wf x0 x1) (hp : pre x0 x1 = true) : raw x0 x1 = some ((), (laws_heldPeer x0 x1, ())) := by
 simp only [pre, Bool.and_eq_true, decide_eq_true_eq] at hp
 simp only [cntT_Peer] at hp
 have n1 := cntT_Hard_nn x0.2.1
 have n3 := cntL_nn mk_Bool_ok x0.2.2.2.1
 have n4 := cntL_nn mk_Int_ok x0.2.2.2.2.1
 have n5 := cntL_nn mk_Int_ok x0.2.2.2.2.2.1
 have n7 := cntT_Keep_nn x0.2.2.2.2.2.2.2.1
 have n8 := cntT_Disk_nn x0.2.2.2.2.2.2.2.2.1
 have n9 := cntL_nn mk_Rpc_ok x0.2.2.2.2.2.2.2.2.2.1
 have q1 : laws_heldHard.pre x0.2.1 (x1) = true := heldHard_pre (by omega) (by omega)
 have q3 : laws_heldBoolS.pre x0.2.2.2.1 (x1 + cntT_Hard x0.2.1) = true := heldBoolS_pre (by omega) (by omega)
 have q4 : laws_heldIntS.pre x0.2.2.2.2.1 (x1 + cntT_Hard x0.2.1 + cntL cnt_Bool x0.2.2.2.1) = true := heldIntS_pre (by omega) (by omega)
 have q5 : laws_heldIntS.pre x0.2.2.2.2.2.1 (x1 + cntT_Hard x0.2.1 + cntL cnt_Bool x0.2.2.2.1 + cntL cnt_Int x0.2.2.2.2.1) = true := heldIntS_pre (by omega) (by omega)
 have q7 : laws_heldKeep.pre x0.2.2.2.2.2.2.2.1 (x1 + cntT_Hard x0.2.1 + cntL cnt_Bool x0.2.2.2.1 + cntL cnt_Int x0.2.2.2.2.1 + cntL cnt_Int x0.2.2.2.2.2.1) = true := heldKeep_pre (by omega) (by omega)
 have q8 : laws_heldDisk.pre x0.2.2.2.2.2.2.2.2.1 (x1 + cntT_Hard x0.2.1 + cntL cnt_Bool x0.2.2.2.1 + cntL cnt_Int x0.2.2.2.2.1 + cntL cnt_Int x0.2.2.2.2.2.1 + cntT_Keep x0.2.2.2.2.2.2.2.1) = true := heldDisk_pre (by omega) (by omega)
 have q9 : laws_heldRpcS.pre x0.2.2.2.2.2.2.2.2.2.1 (x1 + cntT_Hard x0.2.1 + cntL cnt_Bool x0.2.2.2.1 + cntL cnt_Int x0.2.2.2.2.1 + cntL cnt_Int x0.2.2.2.2.2.1 + cntT_Keep x0.2.2.2.2.2.2.2.1 + cntT_Disk x0.2.2.2.2.2.2.2.2.1) = true := heldRpcS_pre (by omega) (by omega)
 unfold raw laws_heldPeer
 simp only [letB, if_true, q1, q3, q4, q5, q7, q8, q9]
 by_cases c1 : x0.2.1 = mkT_Hard x0.2.1 (x1)
 case neg => rw [show laws_heldHard x0.2.1 (x1) = -1 from heldHard_neg c1, if_pos (by decide), heldN_neg (fun h => c1 (congrArg (fun z : Peer => z.2.1) h))]
 rw [show laws_heldHard x0.2.1 (x1) = x1 + cntT_Hard x0.2.1 from heldHard_pos c1, if_neg (by rw [decide_eq_true_eq]; omega)]
 try simp only [if_true, q1, q3, q4, q5, q7, q8, q9]
 by_cases c3 : x0.2.2.2.1 = mkL mk_Bool cnt_Bool x0.2.2.2.1 (x1 + cntT_Hard x0.2.1)
 case neg => rw [show laws_heldBoolS x0.2.2.2.1 (x1 + cntT_Hard x0.2.1) = -1 from heldBoolS_neg c3, if_pos (by decide), heldN_neg (fun h => c3 (congrArg (fun z : Peer => z.2.2.2.1) h))]
 rw [show laws_heldBoolS x0.2.2.2.1 (x1 + cntT_Hard x0.2.1) = x1 + cntT_Hard x0.2.1 + cntL cnt_Bool x0.2.2.2.1 from heldBoolS_pos c3, if_neg (by rw [decide_eq_true_eq]; omega)]
 try simp only [if_true, q1, q3, q4, q5, q7, q8, q9]
 by_cases c4 : x0.2.2.2.2.1 = mkL mk_Int cnt_Int x0.2.2.2.2.1 (x1 + cntT_Hard x0.2.1 + cntL cnt_Bool x0.2.2.2.1)
 case neg => rw [show laws_heldIntS x0.2.2.2.2.1 (x1 + cntT_Hard x0.2.1 + cntL cnt_Bool x0.2.2.2.1) = -1 from heldIntS_neg c4, if_pos (by decide), heldN_neg (fun h => c4 (congrArg (fun z : Peer => z.2.2.2.2.1) h))]
 rw [show laws_heldIntS x0.2.2.2.2.1 (x1 + cntT_Hard x0.2.1 + cntL cnt_Bool x0.2.2.2.1) = x1 + cntT_Hard x0.2.1 + cntL cnt_Bool x0.2.2.2.1 + cntL cnt_Int x0.2.2.2.2.1 from heldIntS_pos c4, if_neg (by rw [decide_eq_true_eq]; omega)]
 try simp only [if_true, q1, q3, q4, q5, q7, q8, q9]
 by_cases c5 : x0.2.2.2.2.2.1 = mkL mk_Int cnt_Int x0.2.2.2.2.2.1 (x1 + cntT_Hard x0.2.1 + cntL cnt_Bool x0.2.2.2.1 + cntL cnt_Int x0.2.2.2.2.1)
 case neg => rw [show laws_heldIntS x0.2.2.2.2.2.1 (x1 + cntT_Hard x0.2.1 + cntL cnt_Bool x0.2.2.2.1 + cntL cnt_Int x0.2.2.2.2.1) = -1 from heldIntS_neg c5, if_pos (by decide), heldN_neg (fun h => c5 (congrArg (fun z : Peer => z.2.2.2.2.2.1) h))]
 rw [show laws_heldIntS x0.2.2.2.2.2.1 (x1 + cntT_Hard x0.2.1 + cntL cnt_Bool x0.2.2.2.1 + cntL cnt_Int x0.2.2.2.2.1) = x1 + cntT_Hard x0.2.1 + cntL cnt_Bool x0.2.2.2.1 + cntL cnt_Int x0.2.2.2.2.1 + cntL cnt_Int x0.2.2.2.2.2.1 from heldIntS_pos c5, if_neg (by rw [decide_eq_true_eq]; omega)]
 try simp only [if_true, q1, q3, q4, q5, q7, q8, q9]
 by_cases c7 : x0.2.2.2.2.2.2.2.1 = mkT_Keep x0.2.2.2.2.2.2.2.1 (x1 + cntT_Hard x0.2.1 + cntL cnt_Bool x0.2.2.2.1 + cntL cnt_Int x0.2.2.2.2.1 + cntL cnt_Int x0.2.2.2.2.2.1)
 case neg => rw [show laws_heldKeep x0.2.2.2.2.2.2.2.1 (x1 + cntT_Hard x0.2.1 + cntL cnt_Bool x0.2.2.2.1 + cntL cnt_Int x0.2.2.2.2.1 + cntL cnt_Int x0.2.2.2.2.2.1) = -1 from heldKeep_neg c7, if_pos (by decide), heldN_neg (fun h => c7 (congrArg (fun z : Peer => z.2.2.2.2.2.2.2.1) h))]
 rw [show laws_heldKeep x0.2.2.2.2.2.2.2.1 (x1 + cntT_Hard x0.2.1 + cntL cnt_Bool x0.2.2.2.1 + cntL cnt_Int x0.2.2.2.2.1 + cntL cnt_Int x0.2.2.2.2.2.1) = x1 + cntT_Hard x0.2.1 + cntL cnt_Bool x0.2.2.2.1 + cntL cnt_Int x0.2.2.2.2.1 + cntL cnt_Int x0.2.2.2.2.2.1 + cntT_Keep x0.2.2.2.2.2.2.2.1 from heldKeep_pos c7, if_neg (by rw [decide_eq_true_eq]; omega)]
 try simp only [if_true, q1, q3, q4, q5, q7, q8, q9]
 by_cases c8 : x0.2.2.2.2.2.2.2.2.1 = mkT_Disk x0.2.2.2.2.2.2.2.2.1 (x1 + cntT_Hard x0.2.1 + cntL cnt_Bool x0.2.2.2.1 + cntL cnt_Int x0.2.2.2.2.1 + cntL cnt_Int x0.2.2.2.2.2.1 + cntT_Keep x0.2.2.2.2.2.2.2.1)
 case neg => rw [show laws_heldDisk x0.2.2.2.2.2.2.2.2.1 (x1 + cntT_Hard x0.2.1 + cntL cnt_Bool x0.2.2.2.1 + cntL cnt_Int x0.2.2.2.2.1 + cntL cnt_Int x0.2.2.2.2.2.1 + cntT_Keep x0.2.2.2.2.2.2.2.1) = -1 from heldDisk_neg c8, if_pos (by decide), heldN_neg (fun h => c8 (congrArg (fun z : Peer => z.2.2.2.2.2.2.2.2.1) h))]
 rw [show laws_heldDisk x0.2.2.2.2.2.2.2.2.1 (x1 + cntT_Hard x0.2.1 + cntL cnt_Bool x0.2.2.2.1 + cntL cnt_Int x0.2.2.2.2.1 + cntL cnt_Int x0.2.2.2.2.2.1 + cntT_Keep x0.2.2.2.2.2.2.2.1) = x1 + cntT_Hard x0.2.1 + cntL cnt_Bool x0.2.2.2.1 + cntL cnt_Int x0.2.2.2.2.1 + cntL cnt_Int x0.2.2.2.2.2.1 + cntT_Keep x0.2.2.2.2.2.2.2.1 + cntT_Disk x0.2.2.2.2.2.2.2.2.1 from heldDisk_pos c8, if_neg (by rw [decide_eq_true_eq]; omega)]
 try simp only [if_true, q1, q3, q4, q5, q7, q8, q9]
 by_cases c9 : x0.2.2.2.2.2.2.2.2.2.1 = mkL mk_Rpc cnt_Rpc x0.2.2.2.2.2.2.2.2.2.1 (x1 + cntT_Hard x0.2.1 + cntL cnt_Bool x0.2.2.2.1 + cntL cnt_Int x0.2.2.2.2.1 + cntL cnt_Int x0.2.2.2.2.2.1 + cntT_Keep x0.2.2.2.2.2.2.2.1 + cntT_Disk x0.2.2.2.2.2.2.2.2.1)
 case neg => rw [show laws_heldRpcS x0.2.2.2.2.2.2.2.2.2.1 (x1 + cntT_Hard x0.2.1 + cntL cnt_Bool x0.2.2.2.1 + cntL cnt_Int x0.2.2.2.2.1 + cntL cnt_Int x0.2.2.2.2.2.1 + cntT_Keep x0.2.2.2.2.2.2.2.1 + cntT_Disk x0.2.2.2.2.2.2.2.2.1) = -1 from heldRpcS_neg c9, if_pos (by decide), heldN_neg (fun h => c9 (congrArg (fun z : Peer => z.2.2.2.2.2.2.2.2.2.1) h))]
 rw [show laws_heldRpcS x0.2.2.2.2.2.2.2.2.2.1 (x1 + cntT_Hard x0.2.1 + cntL cnt_Bool x0.2.2.2.1 + cntL cnt_Int x0.2.2.2.2.1 + cntL cnt_Int x0.2.2.2.2.2.1 + cntT_Keep x0.2.2.2.2.2.2.2.1 + cntT_Disk x0.2.2.2.2.2.2.2.2.1) = x1 + cntT_Hard x0.2.1 + cntL cnt_Bool x0.2.2.2.1 + cntL cnt_Int x0.2.2.2.2.1 + cntL cnt_Int x0.2.2.2.2.2.1 + cntT_Keep x0.2.2.2.2.2.2.2.1 + cntT_Disk x0.2.2.2.2.2.2.2.2.1 + cntL cnt_Rpc x0.2.2.2.2.2.2.2.2.2.1 from heldRpcS_pos c9, if_neg (by rw [decide_eq_true_eq]; omega)]
 rw [heldN_pos (m := mkT_Peer) (g := cntT_Peer) (Prod.ext rfl (Prod.ext c1 (Prod.ext rfl (Prod.ext c3 (Prod.ext c4 (Prod.ext c5 (Prod.ext rfl (Prod.ext c7 (Prod.ext c8 (Prod.ext c9 rfl)))))))))), show x1 + cntT_Hard x0.2.1 + cntL cnt_Bool x0.2.2.2.1 + cntL cnt_Int x0.2.2.2.2.1 + cntL cnt_Int x0.2.2.2.2.2.1 + cntT_Keep x0.2.2.2.2.2.2.2.1 + cntT_Disk x0.2.2.2.2.2.2.2.2.1 + cntL cnt_Rpc x0.2.2.2.2.2.2.2.2.2.1 = x1 + cntT_Peer x0 by simp only [cntT_Peer]; omega]
end laws_heldPeer
theorem heldPeer_pre {x : Peer} {k : Int} (h0 : 0 ≤ k) (h1 : k + cntT_Peer x ≤ 134217728) : laws_heldPeer.pre x k = true := by simp [laws_heldPeer.pre, h0, h1]
theorem held_markPeer (x : Peer) (k : Int) : laws_heldPeer (mkT_Peer x k) k = k + cntT_Peer x := held_mk mkT_Peer_keep mkT_Peer_idem x k
def SetupOk (x : Setup) : Bool := impl_within x.1 1 4 && (impl_within x.2.1 1 5 && (impl_within x.2.2.1 1 8 && impl_within x.2.2.2.1 0 60))
abbrev spec_SetupOk := SetupOk
abbrev impl_SetupOk := SetupOk
namespace spec_SetupOk
abbrev wf (x0 : Setup) : Prop := wfA [(.val zk25 .f)] (x0, ())
noncomputable def raw (x0 : Setup) : Option zt17 :=
 if (impl_within x0.1 (1 : Int) (4 : Int)) = true then
 if (impl_within x0.2.1 (1 : Int) (5 : Int)) = true then
 if (impl_within x0.2.2.1 (1 : Int) (8 : Int)) = true then
 some ((), ((impl_within x0.2.2.2.1 (0 : Int) (60 : Int)), ()))
 else
 some ((), (false, ()))
 else
 some ((), (false, ()))
 else
 some ((), (false, ()))
theorem eq (x0 : Setup) (_ : wf x0) : raw x0 = some ((), (spec_SetupOk x0, ())) := by
 unfold raw spec_SetupOk SetupOk
 cases impl_within x0.1 1 4 <;> cases impl_within x0.2.1 1 5 <;> cases impl_within x0.2.2.1 1 8 <;> simp
end spec_SetupOk
namespace impl_SetupOk
abbrev wf (x0 : Setup) : Prop := wfA [(.val zk25 .f)] (x0, ())
noncomputable def raw (x0 : Setup) : Option zt17 :=
 if (impl_within x0.1 (1 : Int) (4 : Int)) = true then
 if (impl_within x0.2.1 (1 : Int) (5 : Int)) = true then
 if (impl_within x0.2.2.1 (1 : Int) (8 : Int)) = true then
 some ((), ((impl_within x0.2.2.2.1 (0 : Int) (60 : Int)), ()))
 else
 some ((), (false, ()))
 else
 some ((), (false, ()))
 else
 some ((), (false, ()))
theorem eq (x0 : Setup) (_ : wf x0) : raw x0 = some ((), (impl_SetupOk x0, ())) := by
 unfold raw impl_SetupOk SetupOk
 cases impl_within x0.1 1 4 <;> cases impl_within x0.2.1 1 5 <;> cases impl_within x0.2.2.1 1 8 <;> simp
end impl_SetupOk
def laws_toSetup (x : Setup) : Setup := x
namespace laws_toSetup
abbrev wf (x0 : Setup) : Prop := wfA [(.val zk25 .f)] (x0, ())
noncomputable def raw (x0 : Setup) : Option (Unit × (Setup × Unit)) :=
 some ((), (x0, ()))
theorem eq (x0 : Setup) (_ : wf x0) : raw x0 = some ((), (laws_toSetup x0, ())) := rfl
end laws_toSetup
def GroupNew (n : Int) : Group := if impl_within n 1 4 = true then (0, ([], ([], (List.replicate n.toNat 0, ())))) else (0, ([], ([], ([], ()))))
abbrev spec_GroupNew := GroupNew
abbrev impl_GroupNew := GroupNew
namespace spec_GroupNew
def pre (_ : Int) : Bool := true
abbrev wf (x0 : Int) : Prop := wfA [(.val (.int .i64) .f)] (x0, ())
noncomputable def raw (x0 : Int) : Option (Unit × (Group × Unit)) :=
 letB (impl_within x0 (1 : Int) (4 : Int)) fun v1 =>
 if (!v1) = true then
 some ((), (zd11, ()))
 else
 if (decide ((0 : Int) ≤ x0)) = true then
 if (decide (x0 ≤ x0)) = true then
 if (decide (x0 ≤ (4294967296 : Int))) = true then
 some ((), (((0 : Int), (([] : List Int), (([] : List Int), ((List.replicate (Int.toNat x0) (0 : Int)), ())))), ()))
 else
 none
 else
 none
 else
 none
theorem eq (x0 : Int) (_ : wf x0) (_ : pre x0 = true) : raw x0 = some ((), (spec_GroupNew x0, ())) := by
 unfold raw spec_GroupNew GroupNew
 simp only [letB]
 by_cases h : impl_within x0 1 4 = true
 · have := within_hi h
   rw [if_neg (by simp [h]), if_pos (by simp only [decide_eq_true_eq]; omega), if_pos (by simp), if_pos (by simp only [decide_eq_true_eq]; omega), if_pos h]
 · rw [if_pos (by simp [h]), if_neg h]
end spec_GroupNew
namespace impl_GroupNew
def pre (_ : Int) : Bool := true
abbrev wf (x0 : Int) : Prop := wfA [(.val (.int .i64) .f)] (x0, ())
noncomputable def raw (x0 : Int) : Option (Unit × (Group × Unit)) :=
 letB (impl_within x0 (1 : Int) (4 : Int)) fun v1 =>
 if (!v1) = true then
 some ((), (zd11, ()))
 else
 if (decide ((0 : Int) ≤ x0)) = true then
 if (decide (x0 ≤ x0)) = true then
 if (decide (x0 ≤ (4294967296 : Int))) = true then
 some ((), (((0 : Int), (([] : List Int), (([] : List Int), ((List.replicate (Int.toNat x0) (0 : Int)), ())))), ()))
 else
 none
 else
 none
 else
 none
theorem eq (x0 : Int) (_ : wf x0) (_ : pre x0 = true) : raw x0 = some ((), (impl_GroupNew x0, ())) := by
 unfold raw impl_GroupNew GroupNew
 simp only [letB]
 by_cases h : impl_within x0 1 4 = true
 · have := within_hi h
   rw [if_neg (by simp [h]), if_pos (by simp only [decide_eq_true_eq]; omega), if_pos (by simp), if_pos (by simp only [decide_eq_true_eq]; omega), if_pos h]
 · rw [if_pos (by simp [h]), if_neg h]
end impl_GroupNew
def zKeep : Keep := ([], ([], ([], (0, ([], ([], ()))))))
def newKeep (n : Int) : Keep := (List.replicate n.toNat (0, (0, ([], ()))), ([], (List.replicate 2 (GroupNew n), (0, (List.replicate 4 0, (List.replicate 4 (0, (0, ([], ([], ())))), ()))))))
def KeepNew (x : Setup) : Keep := if SetupOk x = true then newKeep x.1 else zKeep
abbrev spec_KeepNew := KeepNew
abbrev impl_KeepNew := KeepNew
abbrev KnT := Int × zt24
abbrev KnS := Int × (Setup × KnT)
def knPre : KnS → Bool := fun s => decide (0 ≤ s.1) && decide (s.2.2.2.2.2.2.2.2.2.2.2.2.2.1.length ≤ s.1.toNat)
def knFn : KnS → KnT := fun (i, x, x3, x4, x5, x6, x7, x8, x9, x10, x11, x12, x13, x14, x15, x16, _) =>
 (x3, (x4, (x5, (x6, (x7, (x8, (x9, (x10, (x11, (x12, (x13, (x14 ++ List.replicate (2 - i).toNat (GroupNew x.1), (x15, (x16, ()))))))))))))))
def knMu : KnS → Nat := fun s => (2 - s.1).toNat
theorem kn_go {x1 : Int} {x2 : Setup} {x3 : Int} {x4 : Unit} {x5 : List Row} {x6 : List Maker} {x7 : List Group} {x8 : List Int} {x9 : List Answer} {x10 : Int} {x11 : Unit} {x12 : List Row} {x13 : List Maker} {x14 : List Group} {x15 : List Int} {x16 : List Answer}
 (hp : knPre (x1, (x2, (x3, (x4, (x5, (x6, (x7, (x8, (x9, (x10, (x11, (x12, (x13, (x14, (x15, (x16, ())))))))))))))))) = true) (hlt : x1 < 2) :
 Rounds knPre knMu knFn (x1, (x2, (x3, (x4, (x5, (x6, (x7, (x8, (x9, (x10, (x11, (x12, (x13, (x14, (x15, (x16, ()))))))))))))))))
  (some (.inl ((IntKind.wrap .i64 (x1 + 1)), (x2, (x3, (x4, (x5, (x6, (x7, (x8, (x9, (x10, (x11, (x12, (x13, ((List.append x14 [GroupNew x2.1]), (x15, (x16, ())))))))))))))))))) := by
 simp only [knPre, Bool.and_eq_true, decide_eq_true_eq] at hp
 rw [w64 (n := x1 + 1) (by omega) (by omega)]
 simp only [Rounds]
 refine ⟨?_, by simp only [knMu]; omega, ?_⟩
 · simp only [knPre, Bool.and_eq_true, decide_eq_true_eq, List.append_eq, List.length_append, List.length_cons, List.length_nil]; omega
 · simp only [knFn, List.append_eq]
   rw [show (2 - x1).toNat = (2 - (x1 + 1)).toNat + 1 by omega, List.replicate_succ, List.append_assoc]; rfl
theorem kn_end {x1 : Int} {x2 : Setup} {x3 : Int} {x4 : Unit} {x5 : List Row} {x6 : List Maker} {x7 : List Group} {x8 : List Int} {x9 : List Answer} {x10 : Int} {x11 : Unit} {x12 : List Row} {x13 : List Maker} {x14 : List Group} {x15 : List Int} {x16 : List Answer} (hlt : ¬ x1 < 2) :
 Rounds knPre knMu knFn (x1, (x2, (x3, (x4, (x5, (x6, (x7, (x8, (x9, (x10, (x11, (x12, (x13, (x14, (x15, (x16, ()))))))))))))))))
  (some (.inr (x3, (x4, (x5, (x6, (x7, (x8, (x9, (x10, (x11, (x12, (x13, (x14, (x15, (x16, ())))))))))))))))) := by
 simp only [Rounds, knFn]
 rw [show (2 - x1).toNat = 0 by omega, List.replicate_zero, List.append_nil]
namespace spec_KeepNew
def pre (_ : Setup) : Bool := true
def pre5 := knPre
def fn5 := knFn
def mu5 := knMu
noncomputable def raw5 (x1 : Int) (x2 : Setup) (x3 : Int) (x4 : Unit) (x5 : (List Row)) (x6 : (List Maker)) (x7 : (List Group)) (x8 : (List Int)) (x9 : (List Answer)) (x10 : Int) (x11 : Unit) (x12 : (List Row)) (x13 : (List Maker)) (x14 : (List Group)) (x15 : (List Int)) (x16 : (List Answer)) : Option ((Int × (Setup × (Int × zt24))) ⊕ (Int × zt24)) :=
 if (decide (x1 < (2 : Int))) = true then
 if (spec_GroupNew.pre x2.1) = true then
 letB (GroupNew x2.1) fun v1 =>
 if (decide (List.length x14 + List.length (v1 :: ([] : List Group)) ≤ lim)) = true then
 some (.inl ((IntKind.wrap .i64 (x1 + (1 : Int))), (x2, (x3, (x4, (x5, (x6, (x7, (x8, (x9, (x10, (x11, (x12, (x13, ((List.append x14 (v1 :: ([] : List Group))), (x15, (x16, ())))))))))))))))))
 else
 none
 else
 none
 else
 some (.inr (x3, (x4, (x5, (x6, (x7, (x8, (x9, (x10, (x11, (x12, (x13, (x14, (x15, (x16, ())))))))))))))))
abbrev wf (x0 : Setup) : Prop := wfA [(.val zk25 .f)] (x0, ())
noncomputable def raw (x0 : Setup) : Option (Unit × (zt6 × Unit)) :=
 letB (SetupOk x0) fun v1 =>
 if (!v1) = true then
 some ((), (zd26, ()))
 else
 if (decide ((0 : Int) ≤ x0.1)) = true then
 if (decide (x0.1 ≤ x0.1)) = true then
 if (decide (x0.1 ≤ (4294967296 : Int))) = true then
 if (decide ((0 : Int) ≤ (4 : Int))) = true then
 if (decide ((4 : Int) ≤ (4 : Int))) = true then
 if (decide ((4 : Int) ≤ (4294967296 : Int))) = true then
 if (decide ((0 : Int) ≤ (4 : Int))) = true then
 if (decide ((4 : Int) ≤ (4 : Int))) = true then
 if (decide ((4 : Int) ≤ (4294967296 : Int))) = true then
 if (spec_KeepNew.pre5 ((0 : Int), (x0, ((0 : Int), ((), (([] : List Row), (([] : List Maker), (([] : List Group), (([] : List Int), (([] : List Answer), ((0 : Int), ((), ((List.replicate (Int.toNat x0.1) zd16), (([] : List Maker), (([] : List Group), ((List.replicate (Int.toNat (4 : Int)) (0 : Int)), ((List.replicate (Int.toNat (4 : Int)) zd9), ()))))))))))))))))) = true then
 letB (spec_KeepNew.fn5 ((0 : Int), (x0, ((0 : Int), ((), (([] : List Row), (([] : List Maker), (([] : List Group), (([] : List Int), (([] : List Answer), ((0 : Int), ((), ((List.replicate (Int.toNat x0.1) zd16), (([] : List Maker), (([] : List Group), ((List.replicate (Int.toNat (4 : Int)) (0 : Int)), ((List.replicate (Int.toNat (4 : Int)) zd9), ()))))))))))))))))) fun v2 =>
 some ((), ((v2.2.2.2.2.2.2.2.2.2.1, (v2.2.2.2.2.2.2.2.2.2.2.1, (v2.2.2.2.2.2.2.2.2.2.2.2.1, (v2.2.2.2.2.2.2.2.1, (v2.2.2.2.2.2.2.2.2.2.2.2.2.1, (v2.2.2.2.2.2.2.2.2.2.2.2.2.2.1, v2.2.2.2.2.2.2.2.2.1)))))), ()))
 else
 none
 else
 none
 else
 none
 else
 none
 else
 none
 else
 none
 else
 none
 else
 none
 else
 none
 else
 none
theorem ok5 (x1 : Int) (x2 : Setup) (x3 : Int) (x4 : Unit) (x5 : List Row) (x6 : List Maker) (x7 : List Group) (x8 : List Int) (x9 : List Answer) (x10 : Int) (x11 : Unit) (x12 : List Row) (x13 : List Maker) (x14 : List Group) (x15 : List Int) (x16 : List Answer)
 (hp : pre5 (x1, (x2, (x3, (x4, (x5, (x6, (x7, (x8, (x9, (x10, (x11, (x12, (x13, (x14, (x15, (x16, ())))))))))))))))) = true) :
 Rounds pre5 mu5 fn5 (x1, (x2, (x3, (x4, (x5, (x6, (x7, (x8, (x9, (x10, (x11, (x12, (x13, (x14, (x15, (x16, ())))))))))))))))) (raw5 x1 x2 x3 x4 x5 x6 x7 x8 x9 x10 x11 x12 x13 x14 x15 x16) := by
 unfold raw5
 simp only [letB]
 by_cases hlt : x1 < 2
 · have hp2 := hp
   simp only [pre5, knPre, Bool.and_eq_true, decide_eq_true_eq] at hp2
   rw [if_pos (by simp [hlt]), if_pos (show spec_GroupNew.pre _ = true from rfl), if_pos (by simp only [decide_eq_true_eq, lim, List.length_cons, List.length_nil]; omega)]
   exact kn_go hp hlt
 · rw [if_neg (by simp [hlt])]
   exact kn_end hlt
theorem eq (x0 : Setup) (_ : wf x0) (_ : pre x0 = true) : raw x0 = some ((), (spec_KeepNew x0, ())) := by
 unfold raw spec_KeepNew KeepNew
 simp only [letB]
 by_cases h : SetupOk x0 = true
 case neg => rw [if_pos (by simp [h]), if_neg h]; rfl
 have hs := h
 simp only [SetupOk, Bool.and_eq_true] at hs
 have := within_hi hs.1
 rw [if_neg (by simp [h]), if_pos (by simp only [decide_eq_true_eq]; omega), if_pos (by simp), if_pos (by simp only [decide_eq_true_eq]; omega), if_pos (by decide), if_pos (by decide), if_pos (by decide), if_pos (by decide), if_pos (by decide), if_pos (by decide),
  if_pos (show pre5 _ = true by simp [pre5, knPre]), if_pos h]
 rfl
end spec_KeepNew
namespace impl_KeepNew
def pre (_ : Setup) : Bool := true
def pre5 := knPre
def fn5 := knFn
def mu5 := knMu
noncomputable def raw5 (x1 : Int) (x2 : Setup) (x3 : Int) (x4 : Unit) (x5 : (List Row)) (x6 : (List Maker)) (x7 : (List Group)) (x8 : (List Int)) (x9 : (List Answer)) (x10 : Int) (x11 : Unit) (x12 : (List Row)) (x13 : (List Maker)) (x14 : (List Group)) (x15 : (List Int)) (x16 : (List Answer)) : Option ((Int × (Setup × (Int × zt24))) ⊕ (Int × zt24)) :=
 if (decide (x1 < (2 : Int))) = true then
 if (impl_GroupNew.pre x2.1) = true then
 letB (GroupNew x2.1) fun v1 =>
 if (decide (List.length x14 + List.length (v1 :: ([] : List Group)) ≤ lim)) = true then
 some (.inl ((IntKind.wrap .i64 (x1 + (1 : Int))), (x2, (x3, (x4, (x5, (x6, (x7, (x8, (x9, (x10, (x11, (x12, (x13, ((List.append x14 (v1 :: ([] : List Group))), (x15, (x16, ())))))))))))))))))
 else
 none
 else
 none
 else
 some (.inr (x3, (x4, (x5, (x6, (x7, (x8, (x9, (x10, (x11, (x12, (x13, (x14, (x15, (x16, ())))))))))))))))
abbrev wf (x0 : Setup) : Prop := wfA [(.val zk25 .f)] (x0, ())
noncomputable def raw (x0 : Setup) : Option (Unit × (zt6 × Unit)) :=
 letB (SetupOk x0) fun v1 =>
 if (!v1) = true then
 some ((), (zd26, ()))
 else
 if (decide ((0 : Int) ≤ x0.1)) = true then
 if (decide (x0.1 ≤ x0.1)) = true then
 if (decide (x0.1 ≤ (4294967296 : Int))) = true then
 if (decide ((0 : Int) ≤ (4 : Int))) = true then
 if (decide ((4 : Int) ≤ (4 : Int))) = true then
 if (decide ((4 : Int) ≤ (4294967296 : Int))) = true then
 if (decide ((0 : Int) ≤ (4 : Int))) = true then
 if (decide ((4 : Int) ≤ (4 : Int))) = true then
 if (decide ((4 : Int) ≤ (4294967296 : Int))) = true then
 if (impl_KeepNew.pre5 ((0 : Int), (x0, ((0 : Int), ((), (([] : List Row), (([] : List Maker), (([] : List Group), (([] : List Int), (([] : List Answer), ((0 : Int), ((), ((List.replicate (Int.toNat x0.1) zd16), (([] : List Maker), (([] : List Group), ((List.replicate (Int.toNat (4 : Int)) (0 : Int)), ((List.replicate (Int.toNat (4 : Int)) zd9), ()))))))))))))))))) = true then
 letB (impl_KeepNew.fn5 ((0 : Int), (x0, ((0 : Int), ((), (([] : List Row), (([] : List Maker), (([] : List Group), (([] : List Int), (([] : List Answer), ((0 : Int), ((), ((List.replicate (Int.toNat x0.1) zd16), (([] : List Maker), (([] : List Group), ((List.replicate (Int.toNat (4 : Int)) (0 : Int)), ((List.replicate (Int.toNat (4 : Int)) zd9), ()))))))))))))))))) fun v2 =>
 some ((), ((v2.2.2.2.2.2.2.2.2.2.1, (v2.2.2.2.2.2.2.2.2.2.2.1, (v2.2.2.2.2.2.2.2.2.2.2.2.1, (v2.2.2.2.2.2.2.2.1, (v2.2.2.2.2.2.2.2.2.2.2.2.2.1, (v2.2.2.2.2.2.2.2.2.2.2.2.2.2.1, v2.2.2.2.2.2.2.2.2.1)))))), ()))
 else
 none
 else
 none
 else
 none
 else
 none
 else
 none
 else
 none
 else
 none
 else
 none
 else
 none
 else
 none
theorem ok5 (x1 : Int) (x2 : Setup) (x3 : Int) (x4 : Unit) (x5 : List Row) (x6 : List Maker) (x7 : List Group) (x8 : List Int) (x9 : List Answer) (x10 : Int) (x11 : Unit) (x12 : List Row) (x13 : List Maker) (x14 : List Group) (x15 : List Int) (x16 : List Answer)
 (hp : pre5 (x1, (x2, (x3, (x4, (x5, (x6, (x7, (x8, (x9, (x10, (x11, (x12, (x13, (x14, (x15, (x16, ())))))))))))))))) = true) :
 Rounds pre5 mu5 fn5 (x1, (x2, (x3, (x4, (x5, (x6, (x7, (x8, (x9, (x10, (x11, (x12, (x13, (x14, (x15, (x16, ())))))))))))))))) (raw5 x1 x2 x3 x4 x5 x6 x7 x8 x9 x10 x11 x12 x13 x14 x15 x16) := by
 unfold raw5
 simp only [letB]
 by_cases hlt : x1 < 2
 · have hp2 := hp
   simp only [pre5, knPre, Bool.and_eq_true, decide_eq_true_eq] at hp2
   rw [if_pos (by simp [hlt]), if_pos (show impl_GroupNew.pre _ = true from rfl), if_pos (by simp only [decide_eq_true_eq, lim, List.length_cons, List.length_nil]; omega)]
   exact kn_go hp hlt
 · rw [if_neg (by simp [hlt])]
   exact kn_end hlt
theorem eq (x0 : Setup) (_ : wf x0) (_ : pre x0 = true) : raw x0 = some ((), (impl_KeepNew x0, ())) := by
 unfold raw impl_KeepNew KeepNew
 simp only [letB]
 by_cases h : SetupOk x0 = true
 case neg => rw [if_pos (by simp [h]), if_neg h]; rfl
 have hs := h
 simp only [SetupOk, Bool.and_eq_true] at hs
 have := within_hi hs.1
 rw [if_neg (by simp [h]), if_pos (by simp only [decide_eq_true_eq]; omega), if_pos (by simp), if_pos (by simp only [decide_eq_true_eq]; omega), if_pos (by decide), if_pos (by decide), if_pos (by decide), if_pos (by decide), if_pos (by decide), if_pos (by decide),
  if_pos (show pre5 _ = true by simp [pre5, knPre]), if_pos h]
 rfl
end impl_KeepNew
def HardNew (x : Setup) : Hard := if SetupOk x = true then (0, (-1, ((0, (0, ([], ()))), (KeepNew x, ())))) else (0, (0, ((0, (0, ([], ()))), (zKeep, ()))))
abbrev spec_HardNew := HardNew
abbrev impl_HardNew := HardNew
namespace spec_HardNew
def pre (_ : Setup) : Bool := true
abbrev wf (x0 : Setup) : Prop := wfA [(.val zk25 .f)] (x0, ())
noncomputable def raw (x0 : Setup) : Option (Unit × (zt27 × Unit)) :=
 letB (SetupOk x0) fun v1 =>
 if (!v1) = true then
 some ((), (((0 : Int), ((0 : Int), (zd37, (zd26, ())))), ()))
 else
 if (spec_KeepNew.pre x0) = true then
 letB (KeepNew x0) fun v2 =>
 some ((), (((0 : Int), ((-1 : Int), (zd37, (v2, ())))), ()))
 else
 none
theorem eq (x0 : Setup) (_ : wf x0) (_ : pre x0 = true) : raw x0 = some ((), (spec_HardNew x0, ())) := by
 unfold raw spec_HardNew HardNew
 simp only [letB]
 by_cases h : SetupOk x0 = true
 · rw [if_neg (by simp [h]), if_pos (show spec_KeepNew.pre _ = true from rfl), if_pos h]
 · rw [if_pos (by simp [h]), if_neg h]; rfl
end spec_HardNew
namespace impl_HardNew
def pre (_ : Setup) : Bool := true
abbrev wf (x0 : Setup) : Prop := wfA [(.val zk25 .f)] (x0, ())
noncomputable def raw (x0 : Setup) : Option (Unit × (zt27 × Unit)) :=
 letB (SetupOk x0) fun v1 =>
 if (!v1) = true then
 some ((), (((0 : Int), ((0 : Int), (zd37, (zd26, ())))), ()))
 else
 if (impl_KeepNew.pre x0) = true then
 letB (KeepNew x0) fun v2 =>
 some ((), (((0 : Int), ((-1 : Int), (zd37, (v2, ())))), ()))
 else
 none
theorem eq (x0 : Setup) (_ : wf x0) (_ : pre x0 = true) : raw x0 = some ((), (impl_HardNew x0, ())) := by
 unfold raw impl_HardNew HardNew
 simp only [letB]
 by_cases h : SetupOk x0 = true
 · rw [if_neg (by simp [h]), if_pos (show impl_KeepNew.pre _ = true from rfl), if_pos h]
 · rw [if_pos (by simp [h]), if_neg h]; rfl
end impl_HardNew
theorem cntL_rep {α : Type} (g : α → Int) (a : α) : (n : Nat) → cntL g (List.replicate n a) = n * g a
 | 0 => by simp [cntL]
 | n + 1 => by
  rw [List.replicate_succ, cntL, cntL_rep g a n]
  push_cast
  rw [Int.add_mul]; omega
theorem GroupNew_cnt (n : Int) : cnt_Group (GroupNew n) ≤ 5 := by
 unfold GroupNew
 split
 · rename_i h
   have := within_hi h
   simp only [cnt_Group, cntL_rep, cnt_Int, cntL]; omega
 · simp only [cnt_Group, cntL]; omega
theorem HardNew_cnt (x : Setup) : cntT_Hard (HardNew x) ≤ 1000 := by
 unfold HardNew
 split
 · rename_i h
   unfold KeepNew
   rw [if_pos h]
   simp only [SetupOk, Bool.and_eq_true] at h
   have := within_hi h.1
   have hg := GroupNew_cnt x.1
   simp only [cntT_Hard, cntT_Log, cntT_Keep, newKeep, cntL_rep, cntL, cnt_Row, cnt_Int, cnt_Answer]
   omega
 · simp [cntT_Hard, cntT_Log, cntT_Keep, zKeep, cntL]
section
variable {S O : Type} {pre : S → Bool} {mu : S → Nat} {fn : S → O} {s : S}
theorem R_if {c : Prop} [Decidable c] {A B : Option (S ⊕ O)} (h : c) (r : Rounds pre mu fn s A) : Rounds pre mu fn s (if c then A else B) := by rw [if_pos h]; exact r
theorem R_else {c : Prop} [Decidable c] {A B : Option (S ⊕ O)} (h : ¬ c) (r : Rounds pre mu fn s B) : Rounds pre mu fn s (if c then A else B) := by rw [if_neg h]; exact r
end
section
variable {α β : Type}
theorem E_if {c : Prop} [Decidable c] {A B : Option α} {v : Option α} (h : c) (r : A = v) : (if c then A else B) = v := by rw [if_pos h]; exact r
theorem E_else {c : Prop} [Decidable c] {A B : Option α} {v : Option α} (h : ¬ c) (r : B = v) : (if c then A else B) = v := by rw [if_neg h]; exact r
theorem E_let {a : β} {f : β → Option α} {v : Option α} (r : f a = v) : letB a f = v := r
end
def groupS (x : Group) : Bool := small x.2.1 && (small x.2.2.1 && small x.2.2.2.1)
def allN (ok : Nat → Bool) : Nat → Nat → Bool
 | _, 0 => true
 | i, k + 1 => ok i && allN ok (i + 1) k
theorem allN_iff {ok : Nat → Bool} : (k i : Nat) → (allN ok i k = true ↔ ∀ j, i ≤ j → j < i + k → ok j = true)
 | 0, i => by simp only [allN, true_iff]; intro j h1 h2; omega
 | k + 1, i => by
  simp only [allN, Bool.and_eq_true, allN_iff k (i + 1)]
  constructor
  · rintro ⟨h1, h2⟩ j h3 h4
    rcases Nat.lt_or_ge i j with h | h
    · exact h2 j h (by omega)
    · rw [show j = i by omega]; exact h1
  · intro h
    exact ⟨h i (Nat.le_refl _) (by omega), fun j h1 h2 => h j (by omega) (by omega)⟩
theorem allN_0 {ok : Nat → Bool} {n : Nat} : allN ok 0 n = true ↔ ∀ j, j < n → ok j = true := by
 rw [allN_iff]
 exact ⟨fun h j hj => h j (Nat.zero_le _) (by omega), fun h j _ hj => h j (by omega)⟩
theorem allN_and {a b : Nat → Bool} : (k i : Nat) → allN (fun j => a j && b j) i k = (allN a i k && allN b i k)
 | 0, _ => rfl
 | k + 1, i => by
  simp only [allN, allN_and k (i + 1)]
  cases a i <;> cases b i <;> simp
theorem allN_all {α : Type} {p : α → Bool} {d : α} {xs : List α} : allN (fun j => p (xs.getD j d)) 0 xs.length = xs.all p := by
 rw [Bool.eq_iff_iff, allN_0, List.all_eq_true]
 constructor
 · intro h x hx
   obtain ⟨j, hj, rfl⟩ := List.mem_iff_getElem.1 hx
   have := h j hj
   rwa [getD_get hj] at this
 · intro h j hj
   rw [getD_get hj]
   exact h _ (List.getElem_mem _)
theorem all_getD {α : Type} {p : α → Bool} {xs : List α} (h : xs.all p = true) {i : Nat} (hi : i < xs.length) (d : α) : p (xs.getD i d) = true := by
 rw [getD_get hi]; exact List.all_eq_true.1 h _ (List.getElem_mem _)
section
variable {α β : Type}
def alPre (n : Nat) (i : Int) : Bool := decide (n ≤ 16777216) && (decide (0 ≤ i) && decide (i ≤ (n : Int)))
def alFn (ok : Nat → Bool) (n : Nat) (i : Int) (r : β) : (Bool × Unit) ⊕ β := cond (allN ok i.toNat (n - i.toNat)) (.inr r) (.inl (false, ()))
theorem al_facts {n : Nat} {i : Int} (h : alPre n i = true) : n ≤ 16777216 ∧ 0 ≤ i ∧ i ≤ (n : Int) := by
 simpa only [alPre, Bool.and_eq_true, decide_eq_true_eq] using h
theorem al_step {n : Nat} {i : Int} (h : alPre n i = true) (hlt : i < (n : Int)) :
 IntKind.wrap .i64 (i + 1) = i + 1 ∧ alPre n (i + 1) = true ∧ n - (i + 1).toNat < n - i.toNat ∧ (i + 1).toNat = i.toNat + 1 := by
 obtain ⟨h1, h2, h3⟩ := al_facts h
 refine ⟨w64 (by omega) (by omega), ?_, by omega, by omega⟩
 simp only [alPre, Bool.and_eq_true, decide_eq_true_eq]; omega
theorem al_prev {n : Nat} {i : Int} (h : alPre n i = true) (h0 : 0 < i) : IntKind.wrap .i64 (i - 1) = i - 1 ∧ 0 ≤ i - 1 ∧ i - 1 < (n : Int) ∧ (i - 1).toNat = i.toNat - 1 ∧ ¬ i.toNat = 0 := by
 obtain ⟨h1, h2, h3⟩ := al_facts h
 exact ⟨w64 (by omega) (by omega), by omega, by omega, by omega, by omega⟩
theorem al_next {ok : Nat → Bool} {n : Nat} {i : Int} {r : β} (h : alPre n i = true) (hlt : i < (n : Int)) (hk : ok i.toNat = true) : alFn ok n (i + 1) r = alFn ok n i r := by
 obtain ⟨h1, h2, h3⟩ := al_facts h
 unfold alFn
 rw [show n - i.toNat = (n - (i + 1).toNat) + 1 by omega, allN, hk, Bool.true_and, show (i + 1).toNat = i.toNat + 1 by omega]
theorem al_stop {ok : Nat → Bool} {n : Nat} {i : Int} {r : β} (h : alPre n i = true) (hlt : i < (n : Int)) (hk : ok i.toNat = false) : .inl (false, ()) = alFn ok n i r := by
 obtain ⟨h1, h2, h3⟩ := al_facts h
 unfold alFn
 rw [show n - i.toNat = (n - (i + 1).toNat) + 1 by omega, allN, hk]; rfl
theorem al_end {ok : Nat → Bool} {n : Nat} {i : Int} {r : β} (h : alPre n i = true) (hlt : ¬ i < (n : Int)) : .inr r = alFn ok n i r := by
 obtain ⟨h1, h2, h3⟩ := al_facts h
 unfold alFn
 rw [show n - i.toNat = 0 by omega]; rfl
theorem al_start {n : Nat} (h : n ≤ 16777216) : alPre n 0 = true := by simp [alPre, h]
theorem al_all {ok : Nat → Bool} {n : Nat} {r : β} : alFn ok n 0 r = cond (allN ok 0 n) (.inr r) (.inl (false, ())) := by simp [alFn]
end
def itOk (e : Item) : Bool := wordsOk e.2.1 && (wordsOk e.2.2.1 && (impl_within e.2.2.2.1 0 3 && impl_within e.2.2.2.2.1 0 100000))
def rowAt (x : Row) (j : Nat) : Bool := impl_within (x.2.2.1.getD j zd10).1 x.1 (IntKind.wrap .i64 (x.2.1 - 1)) && ((decide (j = 0) || decide ((x.2.2.1.getD (j - 1) zd10).1 < (x.2.2.1.getD j zd10).1)) && itOk (x.2.2.1.getD j zd10))
def RowOk (x : Row) : Bool := impl_within x.1 0 x.2.1 && (decide (x.2.1 ≤ 100000) && (decide ((x.2.2.1.length : Int) ≤ 80) && allN (rowAt x) 0 x.2.2.1.length))
abbrev impl_RowOk := RowOk
abbrev spec_RowOk := RowOk
namespace impl_RowOk
abbrev S4 : Type := ((List Item) × (Int × (Int × (Row × Unit))))
abbrev O4 : Type := ((Bool × Unit) ⊕ Unit)
def pre (x : Row) : Bool := small x.2.2.1
noncomputable def pre4 : S4 → Bool := fun (x1, x2, x3, x4, _) => same x1 x4.2.2.1 && (decide (x2 = (x4.2.2.1.length : Int)) && alPre x4.2.2.1.length x3)
def fn4 : S4 → O4 := fun (_, _, x3, x4, _) => alFn (rowAt x4) x4.2.2.1.length x3 ()
def mu4 : S4 → Nat := fun (_, _, x3, x4, _) => x4.2.2.1.length - x3.toNat
noncomputable def raw4 (x1 : (List Item)) (x2 : Int) (x3 : Int) (x4 : Row) : Option (((List Item) × (Int × (Int × (Row × Unit)))) ⊕ ((Bool × Unit) ⊕ Unit)) :=
 if (decide (x3 < x2)) = true then
 if (decide ((0 : Int) ≤ x3)) = true then
 if (decide (x3 < ((List.length x1 : Nat) : Int))) = true then
 letB (impl_within (List.getD x1 (Int.toNat x3) zd10).1 x4.1 (IntKind.wrap .i64 (x4.2.1 - (1 : Int)))) fun v1 =>
 if (!v1) = true then
 some (.inr (.inl (false, ())))
 else
 if (decide ((0 : Int) < x3)) = true then
 if (decide ((0 : Int) ≤ (IntKind.wrap .i64 (x3 - (1 : Int))))) = true then
 if (decide ((IntKind.wrap .i64 (x3 - (1 : Int))) < ((List.length x4.2.2.1 : Nat) : Int))) = true then
 if (decide ((List.getD x1 (Int.toNat x3) zd10).1 ≤ (List.getD x4.2.2.1 (Int.toNat (IntKind.wrap .i64 (x3 - (1 : Int)))) zd10).1)) = true then
 some (.inr (.inl (false, ())))
 else
 letB (wordsOk (List.getD x1 (Int.toNat x3) zd10).2.1) fun v2 =>
 if (!v2) = true then
 some (.inr (.inl (false, ())))
 else
 letB (wordsOk (List.getD x1 (Int.toNat x3) zd10).2.2.1) fun v3 =>
 if (!v3) = true then
 some (.inr (.inl (false, ())))
 else
 letB (impl_within (List.getD x1 (Int.toNat x3) zd10).2.2.2.1 (0 : Int) (3 : Int)) fun v4 =>
 if (!v4) = true then
 some (.inr (.inl (false, ())))
 else
 letB (impl_within (List.getD x1 (Int.toNat x3) zd10).2.2.2.2.1 (0 : Int) (100000 : Int)) fun v5 =>
 if (!v5) = true then
 some (.inr (.inl (false, ())))
 else
 some (.inl (x1, (x2, ((IntKind.wrap .i64 (x3 + (1 : Int))), (x4, ())))))
 else
 none
 else
 none
 else
 letB (wordsOk (List.getD x1 (Int.toNat x3) zd10).2.1) fun v6 =>
 if (!v6) = true then
 some (.inr (.inl (false, ())))
 else
 letB (wordsOk (List.getD x1 (Int.toNat x3) zd10).2.2.1) fun v7 =>
 if (!v7) = true then
 some (.inr (.inl (false, ())))
 else
 letB (impl_within (List.getD x1 (Int.toNat x3) zd10).2.2.2.1 (0 : Int) (3 : Int)) fun v8 =>
 if (!v8) = true then
 some (.inr (.inl (false, ())))
 else
 letB (impl_within (List.getD x1 (Int.toNat x3) zd10).2.2.2.2.1 (0 : Int) (100000 : Int)) fun v9 =>
 if (!v9) = true then
 some (.inr (.inl (false, ())))
 else
 some (.inl (x1, (x2, ((IntKind.wrap .i64 (x3 + (1 : Int))), (x4, ())))))
 else
 none
 else
 none
 else
 some (.inr (.inr ()))
abbrev wf (x0 : Row) : Prop := wfA [(.val zk18 .f)] (x0, ())
noncomputable def raw (x0 : Row) : Option zt17 :=
 letB (impl_within x0.1 (0 : Int) x0.2.1) fun v1 =>
 if (!v1) = true then
  some ((), (false, ()))
 else
  if (decide ((100000 : Int) < x0.2.1)) = true then
   some ((), (false, ()))
  else
   if (decide ((80 : Int) < ((List.length x0.2.2.1 : Nat) : Int))) = true then
    some ((), (false, ()))
   else
    if (impl_RowOk.pre4 (x0.2.2.1, (((List.length x0.2.2.1 : Nat) : Int), ((0 : Int), (x0, ()))))) = true then
     letB (impl_RowOk.fn4 (x0.2.2.1, (((List.length x0.2.2.1 : Nat) : Int), ((0 : Int), (x0, ()))))) fun v2 =>
     match v2 with
     | .inl y =>
      some ((), y)
     | .inr y =>
      some ((), (true, ()))
    else
     none
theorem ok4 (x1 : List Item) (x2 x3 : Int) (x4 : Row) (hp : pre4 (x1, (x2, (x3, (x4, ())))) = true) : Rounds pre4 mu4 fn4 (x1, (x2, (x3, (x4, ())))) (raw4 x1 x2 x3 x4) := by
 simp only [pre4, Bool.and_eq_true, decide_eq_true_eq, same_true] at hp
 obtain ⟨rfl, rfl, ha⟩ := hp
 obtain ⟨h1, h2, h3⟩ := al_facts ha
 unfold raw4
 by_cases hlt : x3 < (x4.2.2.1.length : Int)
 · obtain ⟨n1, n2, n3, n4⟩ := al_step ha hlt
   have nxt : rowAt x4 x3.toNat = true → Rounds pre4 mu4 fn4 (x4.2.2.1, ((x4.2.2.1.length : Int), (x3, (x4, ())))) (some (.inl (x4.2.2.1, ((x4.2.2.1.length : Int), (x3 + 1, (x4, ())))))) :=
    fun h => ⟨by simp only [pre4, same_self, n2]; simp, n3, al_next ha hlt h⟩
   have stp : rowAt x4 x3.toNat = false → Rounds pre4 mu4 fn4 (x4.2.2.1, ((x4.2.2.1.length : Int), (x3, (x4, ())))) (some (.inr (.inl (false, ())))) := fun h => al_stop ha hlt h
   simp only [letB, n1, hlt, h2, decide_true, if_true]
   by_cases h0 : 0 < x3
   · obtain ⟨p1, p2, p3, p4, p5⟩ := al_prev ha h0
     simp only [p1, p2, p3, p4, h0, decide_true, if_true]
     simp only [rowAt, itOk, p5, decide_false, Bool.false_or] at nxt stp
     generalize x4.2.2.1.getD x3.toNat zd10 = e at *
     generalize x4.2.2.1.getD (x3.toNat - 1) zd10 = e' at *
     generalize impl_within e.1 x4.1 (IntKind.wrap .i64 (x4.2.1 - 1)) = b1 at *
     generalize wordsOk e.2.1 = b2 at *
     generalize wordsOk e.2.2.1 = b3 at *
     generalize impl_within e.2.2.2.1 0 3 = b4 at *
     generalize impl_within e.2.2.2.2.1 0 100000 = b5 at *
     by_cases hd : e.1 ≤ e'.1
     · simp only [hd, show ¬ e'.1 < e.1 by omega, decide_true, decide_false, if_true] at *
       cases b1 <;> exact stp rfl
     · simp only [hd, show e'.1 < e.1 by omega, decide_true, decide_false] at *
       cases b1
       · exact stp rfl
       cases b2
       · exact stp rfl
       cases b3
       · exact stp rfl
       cases b4
       · exact stp rfl
       cases b5
       · exact stp rfl
       · exact nxt rfl
   · have p5 : x3.toNat = 0 := by omega
     simp only [h0, decide_false, Bool.false_eq_true, if_false]
     simp only [rowAt, itOk, p5, decide_true, Bool.true_or, Bool.true_and] at nxt stp ⊢
     generalize x4.2.2.1.getD 0 zd10 = e at *
     generalize impl_within e.1 x4.1 (IntKind.wrap .i64 (x4.2.1 - 1)) = b1 at *
     generalize wordsOk e.2.1 = b2 at *
     generalize wordsOk e.2.2.1 = b3 at *
     generalize impl_within e.2.2.2.1 0 3 = b4 at *
     generalize impl_within e.2.2.2.2.1 0 100000 = b5 at *
     cases b1
     · exact stp rfl
     cases b2
     · exact stp rfl
     cases b3
     · exact stp rfl
     cases b4
     · exact stp rfl
     cases b5
     · exact stp rfl
     · exact nxt rfl
 · rw [if_neg (by simp [hlt])]
   exact al_end ha hlt
theorem eq (x0 : Row) (_ : wf x0) (hp : pre x0 = true) : raw x0 = some ((), (impl_RowOk x0, ())) := by
 have hs := small_iff.1 hp
 unfold raw impl_RowOk RowOk
 simp only [letB]
 cases impl_within x0.1 0 x0.2.1
 · rfl
 by_cases h1 : 100000 < x0.2.1
 · rw [if_neg (by decide), if_pos (decide_eq_true h1), decide_eq_false (p := x0.2.1 ≤ 100000) (by omega)]; rfl
 by_cases h2 : 80 < (x0.2.2.1.length : Int)
 · rw [if_neg (by decide), if_neg (by simp [h1]), if_pos (decide_eq_true h2), decide_eq_true (p := x0.2.1 ≤ 100000) (by omega), decide_eq_false (p := (x0.2.2.1.length : Int) ≤ 80) (by omega)]; rfl
 rw [if_neg (by decide), if_neg (by simp [h1]), if_neg (by simp [h2]), decide_eq_true (p := x0.2.1 ≤ 100000) (by omega), decide_eq_true (p := (x0.2.2.1.length : Int) ≤ 80) (by omega),
  if_pos (show pre4 _ = true by simp only [pre4, same_self, al_start hs]; simp)]
 rw [show fn4 (x0.2.2.1, ((x0.2.2.1.length : Int), ((0 : Int), (x0, ())))) = _ from al_all]
 cases allN (rowAt x0) 0 x0.2.2.1.length <;> rfl
end impl_RowOk
abbrev spec_l3Item := itOk
namespace spec_l3Item
def pre (e : Item) : Bool := decide (e.1 ≤ e.1)
abbrev wf (x0 : Item) : Prop := wfA [(.val zk30 .f)] (x0, ())
noncomputable def raw (x0 : Item) : Option zt17 :=
 letB (wordsOk x0.2.1) fun v1 =>
 if v1 = true then
 letB (wordsOk x0.2.2.1) fun v2 =>
 if v2 = true then
 letB (impl_within x0.2.2.2.1 (0 : Int) (3 : Int)) fun v3 =>
 if v3 = true then
 letB (impl_within x0.2.2.2.2.1 (0 : Int) (100000 : Int)) fun v4 =>
 some ((), (v4, ()))
 else
 some ((), (false, ()))
 else
 some ((), (false, ()))
 else
 some ((), (false, ()))
theorem eq (x0 : Item) (_ : wf x0) (_ : pre x0 = true) : raw x0 = some ((), (spec_l3Item x0, ())) := by
 unfold raw
 show _ = some ((), (itOk x0, ()))
 unfold itOk
 simp only [letB]
 cases wordsOk x0.2.1 <;> cases wordsOk x0.2.2.1 <;> cases impl_within x0.2.2.2.1 0 3 <;> simp
end spec_l3Item
namespace spec_RowOk
abbrev S2 : Type := (Int × (Row × Unit))
abbrev O2 : Type := ((Bool × Unit) ⊕ (Row × Unit))
def pre (x : Row) : Bool := small x.2.2.1
def pre2 : S2 → Bool := fun (x1, x2, _) => alPre x2.2.2.1.length x1
def fn2 : S2 → O2 := fun (x1, x2, _) => alFn (rowAt x2) x2.2.2.1.length x1 (x2, ())
def mu2 : S2 → Nat := fun (x1, x2, _) => x2.2.2.1.length - x1.toNat
noncomputable def raw2 (x1 : Int) (x2 : Row) : Option ((Int × (Row × Unit)) ⊕ ((Bool × Unit) ⊕ (Row × Unit))) :=
 if (decide (x1 < ((List.length x2.2.2.1 : Nat) : Int))) = true then
 if (decide ((0 : Int) ≤ x1)) = true then
 if (decide (x1 < ((List.length x2.2.2.1 : Nat) : Int))) = true then
 if (spec_l3Item.pre (List.getD x2.2.2.1 (Int.toNat x1) zd10)) = true then
 letB (itOk (List.getD x2.2.2.1 (Int.toNat x1) zd10)) fun v1 =>
 if (!v1) = true then
 some (.inr (.inl (false, ())))
 else
 if (decide ((0 : Int) ≤ x1)) = true then
 if (decide (x1 < ((List.length x2.2.2.1 : Nat) : Int))) = true then
 letB (impl_within (List.getD x2.2.2.1 (Int.toNat x1) zd10).1 x2.1 (IntKind.wrap .i64 (x2.2.1 - (1 : Int)))) fun v2 =>
 if (!v2) = true then
 some (.inr (.inl (false, ())))
 else
 if (decide ((0 : Int) < x1)) = true then
 if (decide ((0 : Int) ≤ (IntKind.wrap .i64 (x1 - (1 : Int))))) = true then
 if (decide ((IntKind.wrap .i64 (x1 - (1 : Int))) < ((List.length x2.2.2.1 : Nat) : Int))) = true then
 if (decide ((0 : Int) ≤ x1)) = true then
 if (decide (x1 < ((List.length x2.2.2.1 : Nat) : Int))) = true then
 if (decide ((List.getD x2.2.2.1 (Int.toNat x1) zd10).1 ≤ (List.getD x2.2.2.1 (Int.toNat (IntKind.wrap .i64 (x1 - (1 : Int)))) zd10).1)) = true then
 some (.inr (.inl (false, ())))
 else
 some (.inl ((IntKind.wrap .i64 (x1 + (1 : Int))), (x2, ())))
 else
 none
 else
 none
 else
 none
 else
 none
 else
 some (.inl ((IntKind.wrap .i64 (x1 + (1 : Int))), (x2, ())))
 else
 none
 else
 none
 else
 none
 else
 none
 else
 none
 else
 some (.inr (.inr (x2, ())))
abbrev wf (x0 : Row) : Prop := wfA [(.val zk18 .f)] (x0, ())
noncomputable def raw (x0 : Row) : Option zt17 :=
 if (spec_RowOk.pre2 ((0 : Int), (x0, ()))) = true then
  letB (spec_RowOk.fn2 ((0 : Int), (x0, ()))) fun v1 =>
  match v1 with
  | .inl y =>
   some ((), y)
  | .inr y =>
   letB (impl_within y.1.1 (0 : Int) y.1.2.1) fun v2 =>
   if v2 = true then
    if (decide (y.1.2.1 ≤ (100000 : Int))) = true then
     some ((), ((decide (((List.length y.1.2.2.1 : Nat) : Int) ≤ (80 : Int))), ()))
    else
     some ((), (false, ()))
   else
    some ((), (false, ()))
 else
  none
theorem ok2 (x1 : Int) (x2 : Row) (ha : pre2 (x1, (x2, ())) = true) : Rounds pre2 mu2 fn2 (x1, (x2, ())) (raw2 x1 x2) := by
 have ha : alPre x2.2.2.1.length x1 = true := ha
 obtain ⟨h1, h2, h3⟩ := al_facts ha
 unfold raw2
 by_cases hlt : x1 < (x2.2.2.1.length : Int)
 · obtain ⟨n1, n2, n3, n4⟩ := al_step ha hlt
   have nxt : rowAt x2 x1.toNat = true → Rounds pre2 mu2 fn2 (x1, (x2, ())) (some (.inl (x1 + 1, (x2, ())))) := fun h => ⟨n2, n3, al_next ha hlt h⟩
   have stp : rowAt x2 x1.toNat = false → Rounds pre2 mu2 fn2 (x1, (x2, ())) (some (.inr (.inl (false, ())))) := fun h => al_stop ha hlt h
   simp only [letB, n1, hlt, h2, decide_true, if_true, show spec_l3Item.pre (x2.2.2.1.getD x1.toNat zd10) = true from decide_eq_true (Int.le_refl _)]
   by_cases h0 : 0 < x1
   · obtain ⟨p1, p2, p3, p4, p5⟩ := al_prev ha h0
     simp only [p1, p2, p3, p4, h0, decide_true, if_true]
     simp only [rowAt, p5, decide_false, Bool.false_or] at nxt stp
     generalize x2.2.2.1.getD x1.toNat zd10 = e at *
     generalize x2.2.2.1.getD (x1.toNat - 1) zd10 = e' at *
     generalize impl_within e.1 x2.1 (IntKind.wrap .i64 (x2.2.1 - 1)) = b1 at *
     generalize itOk e = b2 at *
     by_cases hd : e.1 ≤ e'.1
     · simp only [hd, show ¬ e'.1 < e.1 by omega, decide_true, decide_false, if_true] at *
       cases b1 <;> cases b2 <;> exact stp rfl
     · simp only [hd, show e'.1 < e.1 by omega, decide_true, decide_false] at *
       cases b1 <;> cases b2
       · exact stp rfl
       · exact stp rfl
       · exact stp rfl
       · exact nxt rfl
   · have p5 : x1.toNat = 0 := by omega
     simp only [h0, decide_false, Bool.false_eq_true, if_false]
     simp only [rowAt, p5, decide_true, Bool.true_or, Bool.true_and] at nxt stp ⊢
     generalize x2.2.2.1.getD 0 zd10 = e at *
     generalize impl_within e.1 x2.1 (IntKind.wrap .i64 (x2.2.1 - 1)) = b1 at *
     generalize itOk e = b2 at *
     cases b1 <;> cases b2
     · exact stp rfl
     · exact stp rfl
     · exact stp rfl
     · exact nxt rfl
 · rw [if_neg (by simp [hlt])]
   exact al_end ha hlt
theorem eq (x0 : Row) (_ : wf x0) (hp : pre x0 = true) : raw x0 = some ((), (spec_RowOk x0, ())) := by
 have hs := small_iff.1 hp
 unfold raw spec_RowOk RowOk
 rw [if_pos (show pre2 ((0 : Int), (x0, ())) = true from al_start hs), show fn2 ((0 : Int), (x0, ())) = _ from al_all]
 simp only [letB]
 cases allN (rowAt x0) 0 x0.2.2.1.length
 · simp
 simp only [cond_true]
 cases impl_within x0.1 0 x0.2.1 <;> cases decide (x0.2.1 ≤ 100000) <;> cases decide ((x0.2.2.1.length : Int) ≤ 80) <;> rfl
end spec_RowOk
def ordAt (xs : List Mark) (j : Nat) : Bool := decide (j = 0) || decide ((xs.getD (j - 1) zd22).2.1 < (xs.getD j zd22).2.1)
def mkAtI (m : Maker) (j : Nat) : Bool := decide ((m.2.2.2.2.1.getD j zd22).1 = IntKind.wrap .i64 (IntKind.wrap .i64 (IntKind.wrap .i64 (m.2.2.2.1 - (m.2.2.2.2.1.length : Int)) + 1) + (j : Int))) && (impl_within (m.2.2.2.2.1.getD j zd22).2.1 0 100000 && ordAt m.2.2.2.2.1 j)
def mkAtS (m : Maker) (j : Nat) : Bool := decide ((m.2.2.2.2.1.getD j zd22).1 = IntKind.wrap .i64 (m.2.2.2.1 - IntKind.wrap .i64 (IntKind.wrap .i64 ((m.2.2.2.2.1.length : Int) - 1) - (j : Int)))) && (impl_within (m.2.2.2.2.1.getD j zd22).2.1 0 100000 && ordAt m.2.2.2.2.1 j)
def mkHead (m : Maker) : Bool := impl_within m.1 0 3 && (impl_within m.2.1 0 3 && (impl_within m.2.2.1 0 100000 && impl_within m.2.2.2.1 (-1) 100000))
def impl_MakerOk (m : Maker) (w : Int) : Bool := mkHead m && (decide ((m.2.2.2.2.1.length : Int) ≤ w) && ((decide (m.2.2.2.1 = -1) == decide ((m.2.2.2.2.1.length : Int) = 0)) && allN (mkAtI m) 0 m.2.2.2.2.1.length))
def spec_MakerOk (m : Maker) (w : Int) : Bool := allN (mkAtS m) 0 m.2.2.2.2.1.length && (decide ((m.2.2.2.2.1.length : Int) ≤ w) && (decide ((m.2.2.2.2.1.length : Int) ≤ IntKind.wrap .i64 (m.2.2.2.1 + 1)) && (!(decide (0 ≤ m.2.2.2.1) && decide ((m.2.2.2.2.1.length : Int) = 0)) && mkHead m)))
namespace impl_MakerOk
abbrev S4 : Type := ((List Mark) × (Int × (Int × (Maker × Unit))))
abbrev O4 : Type := ((Bool × Unit) ⊕ Unit)
def pre (x : Maker) (_ : Int) : Bool := small x.2.2.2.2.1
noncomputable def pre4 : S4 → Bool := fun (x1, x2, x3, x4, _) => same x1 x4.2.2.2.2.1 && (decide (x2 = (x4.2.2.2.2.1.length : Int)) && alPre x4.2.2.2.2.1.length x3)
def fn4 : S4 → O4 := fun (_, _, x3, x4, _) => alFn (mkAtI x4) x4.2.2.2.2.1.length x3 ()
def mu4 : S4 → Nat := fun (_, _, x3, x4, _) => x4.2.2.2.2.1.length - x3.toNat
noncomputable def raw4 (x1 : (List Mark)) (x2 : Int) (x3 : Int) (x4 : Maker) : Option (((List Mark) × (Int × (Int × (Maker × Unit)))) ⊕ ((Bool × Unit) ⊕ Unit)) :=
 if (decide (x3 < x2)) = true then
 if (decide ((0 : Int) ≤ x3)) = true then
 if (decide (x3 < ((List.length x1 : Nat) : Int))) = true then
 if (!(decide ((List.getD x1 (Int.toNat x3) zd22).1 = (IntKind.wrap .i64 ((IntKind.wrap .i64 ((IntKind.wrap .i64 (x4.2.2.2.1 - ((List.length x4.2.2.2.2.1 : Nat) : Int))) + (1 : Int))) + x3))))) = true then
 some (.inr (.inl (false, ())))
 else
 letB (impl_within (List.getD x1 (Int.toNat x3) zd22).2.1 (0 : Int) (100000 : Int)) fun v1 =>
 if (!v1) = true then
 some (.inr (.inl (false, ())))
 else
 if (decide ((0 : Int) < x3)) = true then
 if (decide ((0 : Int) ≤ (IntKind.wrap .i64 (x3 - (1 : Int))))) = true then
 if (decide ((IntKind.wrap .i64 (x3 - (1 : Int))) < ((List.length x4.2.2.2.2.1 : Nat) : Int))) = true then
 if (decide ((List.getD x1 (Int.toNat x3) zd22).2.1 ≤ (List.getD x4.2.2.2.2.1 (Int.toNat (IntKind.wrap .i64 (x3 - (1 : Int)))) zd22).2.1)) = true then
 some (.inr (.inl (false, ())))
 else
 some (.inl (x1, (x2, ((IntKind.wrap .i64 (x3 + (1 : Int))), (x4, ())))))
 else
 none
 else
 none
 else
 some (.inl (x1, (x2, ((IntKind.wrap .i64 (x3 + (1 : Int))), (x4, ())))))
 else
 none
 else
 none
 else
 some (.inr (.inr ()))
abbrev wf (x0 : Maker) (x1 : Int) : Prop := wfA [(.val zk23 .f), (.val (.int .i64) .f)] (x0, (x1, ()))
noncomputable def raw (x0 : Maker) (x1 : Int) : Option zt17 :=
 letB (impl_within x0.1 (0 : Int) (3 : Int)) fun v1 =>
 if (!v1) = true then
  some ((), (false, ()))
 else
  letB (impl_within x0.2.1 (0 : Int) (3 : Int)) fun v2 =>
  if (!v2) = true then
   some ((), (false, ()))
  else
   letB (impl_within x0.2.2.1 (0 : Int) (100000 : Int)) fun v3 =>
   if (!v3) = true then
    some ((), (false, ()))
   else
    letB (impl_within x0.2.2.2.1 (-1 : Int) (100000 : Int)) fun v4 =>
    if (!v4) = true then
     some ((), (false, ()))
    else
     if (decide (x1 < ((List.length x0.2.2.2.2.1 : Nat) : Int))) = true then
      some ((), (false, ()))
     else
      if (!((decide (x0.2.2.2.1 = (-1 : Int))) == (decide (((List.length x0.2.2.2.2.1 : Nat) : Int) = (0 : Int))))) = true then
       some ((), (false, ()))
      else
       if (impl_MakerOk.pre4 (x0.2.2.2.2.1, (((List.length x0.2.2.2.2.1 : Nat) : Int), ((0 : Int), (x0, ()))))) = true then
        letB (impl_MakerOk.fn4 (x0.2.2.2.2.1, (((List.length x0.2.2.2.2.1 : Nat) : Int), ((0 : Int), (x0, ()))))) fun v5 =>
        match v5 with
        | .inl y =>
         some ((), y)
        | .inr y =>
         some ((), (true, ()))
       else
        none
theorem ok4 (x1 : List Mark) (x2 x3 : Int) (x4 : Maker) (hp : pre4 (x1, (x2, (x3, (x4, ())))) = true) : Rounds pre4 mu4 fn4 (x1, (x2, (x3, (x4, ())))) (raw4 x1 x2 x3 x4) := by
 simp only [pre4, Bool.and_eq_true, decide_eq_true_eq, same_true] at hp
 obtain ⟨rfl, rfl, ha⟩ := hp
 obtain ⟨h1, h2, h3⟩ := al_facts ha
 unfold raw4
 by_cases hlt : x3 < (x4.2.2.2.2.1.length : Int)
 · obtain ⟨n1, n2, n3, n4⟩ := al_step ha hlt
   have nxt : mkAtI x4 x3.toNat = true → Rounds pre4 mu4 fn4 (x4.2.2.2.2.1, ((x4.2.2.2.2.1.length : Int), (x3, (x4, ())))) (some (.inl (x4.2.2.2.2.1, ((x4.2.2.2.2.1.length : Int), (x3 + 1, (x4, ())))))) :=
    fun h => ⟨by simp only [pre4, same_self, n2]; simp, n3, al_next ha hlt h⟩
   have stp : mkAtI x4 x3.toNat = false → Rounds pre4 mu4 fn4 (x4.2.2.2.2.1, ((x4.2.2.2.2.1.length : Int), (x3, (x4, ())))) (some (.inr (.inl (false, ())))) := fun h => al_stop ha hlt h
   simp only [letB, n1, hlt, h2, decide_true, if_true]
   simp only [mkAtI, ordAt, Int.toNat_of_nonneg h2] at nxt stp
   by_cases h0 : 0 < x3
   · obtain ⟨p1, p2, p3, p4, p5⟩ := al_prev ha h0
     simp only [p1, p2, p3, p4, h0, decide_true, if_true]
     simp only [p5, decide_false, Bool.false_or] at nxt stp
     generalize x4.2.2.2.2.1.getD x3.toNat zd22 = e at *
     generalize x4.2.2.2.2.1.getD (x3.toNat - 1) zd22 = e' at *
     generalize decide (e.1 = _) = b1 at *
     generalize impl_within e.2.1 0 100000 = b2 at *
     by_cases hd : e.2.1 ≤ e'.2.1
     · simp only [hd, show ¬ e'.2.1 < e.2.1 by omega, decide_true, decide_false, if_true] at *
       cases b1 <;> cases b2 <;> exact stp rfl
     · simp only [hd, show e'.2.1 < e.2.1 by omega, decide_true, decide_false] at *
       cases b1 <;> cases b2
       · exact stp rfl
       · exact stp rfl
       · exact stp rfl
       · exact nxt rfl
   · have p5 : x3.toNat = 0 := by omega
     simp only [h0, decide_false, Bool.false_eq_true, if_false]
     simp only [p5, decide_true, Bool.true_or, Bool.and_true] at nxt stp ⊢
     generalize x4.2.2.2.2.1.getD 0 zd22 = e at *
     generalize decide (e.1 = _) = b1 at *
     generalize impl_within e.2.1 0 100000 = b2 at *
     cases b1 <;> cases b2
     · exact stp rfl
     · exact stp rfl
     · exact stp rfl
     · exact nxt rfl
 · rw [if_neg (by simp [hlt])]
   exact al_end ha hlt
theorem eq (x0 : Maker) (x1 : Int) (_ : wf x0 x1) (hp : pre x0 x1 = true) : raw x0 x1 = some ((), (impl_MakerOk x0 x1, ())) := by
 have hs := small_iff.1 (show small x0.2.2.2.2.1 = true from hp)
 unfold raw impl_MakerOk mkHead
 simp only [letB]
 rw [show pre4 (x0.2.2.2.2.1, ((x0.2.2.2.2.1.length : Int), ((0 : Int), (x0, ())))) = true by simp only [pre4, same_self, al_start hs]; simp,
  show fn4 (x0.2.2.2.2.1, ((x0.2.2.2.2.1.length : Int), ((0 : Int), (x0, ())))) = _ from al_all]
 generalize allN (mkAtI x0) 0 x0.2.2.2.2.1.length = b
 generalize (decide (x0.2.2.2.1 = -1) == decide ((x0.2.2.2.2.1.length : Int) = 0)) = c
 by_cases h : x1 < (x0.2.2.2.2.1.length : Int)
 · rw [decide_eq_true h, decide_eq_false (p := (x0.2.2.2.2.1.length : Int) ≤ x1) (by omega)]
   cases impl_within x0.1 0 3 <;> cases impl_within x0.2.1 0 3 <;> cases impl_within x0.2.2.1 0 100000 <;> cases impl_within x0.2.2.2.1 (-1) 100000 <;> rfl
 · rw [decide_eq_false h, decide_eq_true (p := (x0.2.2.2.2.1.length : Int) ≤ x1) (by omega)]
   cases impl_within x0.1 0 3 <;> cases impl_within x0.2.1 0 3 <;> cases impl_within x0.2.2.1 0 100000 <;> cases impl_within x0.2.2.2.1 (-1) 100000 <;> cases b <;> cases c <;> rfl
end impl_MakerOk
namespace spec_MakerOk
abbrev S2 : Type := (Int × (Int × (Maker × Unit)))
abbrev O2 : Type := ((Bool × Unit) ⊕ (Int × (Maker × Unit)))
def pre (x : Maker) (_ : Int) : Bool := small x.2.2.2.2.1
def pre2 : S2 → Bool := fun (_, x2, x3, _) => alPre x3.2.2.2.2.1.length x2
def fn2 : S2 → O2 := fun (x1, x2, x3, _) => alFn (mkAtS x3) x3.2.2.2.2.1.length x2 (x1, (x3, ()))
def mu2 : S2 → Nat := fun (_, x2, x3, _) => x3.2.2.2.2.1.length - x2.toNat
noncomputable def raw2 (x1 : Int) (x2 : Int) (x3 : Maker) : Option ((Int × (Int × (Maker × Unit))) ⊕ ((Bool × Unit) ⊕ (Int × (Maker × Unit)))) :=
 if (decide (x2 < ((List.length x3.2.2.2.2.1 : Nat) : Int))) = true then
 if (decide ((0 : Int) ≤ x2)) = true then
 if (decide (x2 < ((List.length x3.2.2.2.2.1 : Nat) : Int))) = true then
 letB (impl_within (List.getD x3.2.2.2.2.1 (Int.toNat x2) zd22).2.1 (0 : Int) (100000 : Int)) fun v1 =>
 if (!v1) = true then
 some (.inr (.inl (false, ())))
 else
 if (decide ((0 : Int) ≤ x2)) = true then
 if (decide (x2 < ((List.length x3.2.2.2.2.1 : Nat) : Int))) = true then
 if (!(decide ((List.getD x3.2.2.2.2.1 (Int.toNat x2) zd22).1 = (IntKind.wrap .i64 (x3.2.2.2.1 - (IntKind.wrap .i64 ((IntKind.wrap .i64 (((List.length x3.2.2.2.2.1 : Nat) : Int) - (1 : Int))) - x2))))))) = true then
 some (.inr (.inl (false, ())))
 else
 if (decide ((0 : Int) < x2)) = true then
 if (decide ((0 : Int) ≤ (IntKind.wrap .i64 (x2 - (1 : Int))))) = true then
 if (decide ((IntKind.wrap .i64 (x2 - (1 : Int))) < ((List.length x3.2.2.2.2.1 : Nat) : Int))) = true then
 if (decide ((0 : Int) ≤ x2)) = true then
 if (decide (x2 < ((List.length x3.2.2.2.2.1 : Nat) : Int))) = true then
 if (decide ((List.getD x3.2.2.2.2.1 (Int.toNat x2) zd22).2.1 ≤ (List.getD x3.2.2.2.2.1 (Int.toNat (IntKind.wrap .i64 (x2 - (1 : Int)))) zd22).2.1)) = true then
 some (.inr (.inl (false, ())))
 else
 some (.inl (x1, ((IntKind.wrap .i64 (x2 + (1 : Int))), (x3, ()))))
 else
 none
 else
 none
 else
 none
 else
 none
 else
 some (.inl (x1, ((IntKind.wrap .i64 (x2 + (1 : Int))), (x3, ()))))
 else
 none
 else
 none
 else
 none
 else
 none
 else
 some (.inr (.inr (x1, (x3, ()))))
abbrev wf (x0 : Maker) (x1 : Int) : Prop := wfA [(.val zk23 .f), (.val (.int .i64) .f)] (x0, (x1, ()))
noncomputable def raw (x0 : Maker) (x1 : Int) : Option zt17 :=
 if (spec_MakerOk.pre2 (x1, ((0 : Int), (x0, ())))) = true then
  letB (spec_MakerOk.fn2 (x1, ((0 : Int), (x0, ())))) fun v1 =>
  match v1 with
  | .inl y =>
   some ((), y)
  | .inr y =>
   if (decide (y.1 < ((List.length y.2.1.2.2.2.2.1 : Nat) : Int))) = true then
    some ((), (false, ()))
   else
    if (decide ((IntKind.wrap .i64 (y.2.1.2.2.2.1 + (1 : Int))) < ((List.length y.2.1.2.2.2.2.1 : Nat) : Int))) = true then
     some ((), (false, ()))
    else
     if (decide ((0 : Int) ≤ y.2.1.2.2.2.1)) = true then
      if (decide (((List.length y.2.1.2.2.2.2.1 : Nat) : Int) = (0 : Int))) = true then
       some ((), (false, ()))
      else
       letB (impl_within y.2.1.1 (0 : Int) (3 : Int)) fun v2 =>
       if v2 = true then
        letB (impl_within y.2.1.2.1 (0 : Int) (3 : Int)) fun v3 =>
        if v3 = true then
         letB (impl_within y.2.1.2.2.1 (0 : Int) (100000 : Int)) fun v4 =>
         if v4 = true then
          letB (impl_within y.2.1.2.2.2.1 (-1 : Int) (100000 : Int)) fun v5 =>
          some ((), (v5, ()))
         else
          some ((), (false, ()))
        else
         some ((), (false, ()))
       else
        some ((), (false, ()))
     else
      letB (impl_within y.2.1.1 (0 : Int) (3 : Int)) fun v6 =>
      if v6 = true then
       letB (impl_within y.2.1.2.1 (0 : Int) (3 : Int)) fun v7 =>
       if v7 = true then
        letB (impl_within y.2.1.2.2.1 (0 : Int) (100000 : Int)) fun v8 =>
        if v8 = true then
         letB (impl_within y.2.1.2.2.2.1 (-1 : Int) (100000 : Int)) fun v9 =>
         some ((), (v9, ()))
        else
         some ((), (false, ()))
       else
        some ((), (false, ()))
      else
       some ((), (false, ()))
 else
  none
theorem ok2 (x1 x2 : Int) (x3 : Maker) (ha : pre2 (x1, (x2, (x3, ()))) = true) : Rounds pre2 mu2 fn2 (x1, (x2, (x3, ()))) (raw2 x1 x2 x3) := by
 have ha : alPre x3.2.2.2.2.1.length x2 = true := ha
 obtain ⟨h1, h2, h3⟩ := al_facts ha
 unfold raw2
 by_cases hlt : x2 < (x3.2.2.2.2.1.length : Int)
 · obtain ⟨n1, n2, n3, n4⟩ := al_step ha hlt
   have nxt : mkAtS x3 x2.toNat = true → Rounds pre2 mu2 fn2 (x1, (x2, (x3, ()))) (some (.inl (x1, (x2 + 1, (x3, ()))))) := fun h => ⟨n2, n3, al_next ha hlt h⟩
   have stp : mkAtS x3 x2.toNat = false → Rounds pre2 mu2 fn2 (x1, (x2, (x3, ()))) (some (.inr (.inl (false, ())))) := fun h => al_stop ha hlt h
   simp only [letB, n1, hlt, h2, decide_true, if_true]
   simp only [mkAtS, ordAt, Int.toNat_of_nonneg h2] at nxt stp
   by_cases h0 : 0 < x2
   · obtain ⟨p1, p2, p3, p4, p5⟩ := al_prev ha h0
     simp only [p1, p2, p3, p4, h0, decide_true, if_true]
     simp only [p5, decide_false, Bool.false_or] at nxt stp
     generalize x3.2.2.2.2.1.getD x2.toNat zd22 = e at *
     generalize x3.2.2.2.2.1.getD (x2.toNat - 1) zd22 = e' at *
     generalize decide (e.1 = _) = b1 at *
     generalize impl_within e.2.1 0 100000 = b2 at *
     by_cases hd : e.2.1 ≤ e'.2.1
     · simp only [hd, show ¬ e'.2.1 < e.2.1 by omega, decide_true, decide_false, if_true] at *
       cases b1 <;> cases b2 <;> exact stp rfl
     · simp only [hd, show e'.2.1 < e.2.1 by omega, decide_true, decide_false] at *
       cases b1 <;> cases b2
       · exact stp rfl
       · exact stp rfl
       · exact stp rfl
       · exact nxt rfl
   · have p5 : x2.toNat = 0 := by omega
     simp only [h0, decide_false, Bool.false_eq_true, if_false]
     simp only [p5, decide_true, Bool.true_or, Bool.and_true] at nxt stp ⊢
     generalize x3.2.2.2.2.1.getD 0 zd22 = e at *
     generalize decide (e.1 = _) = b1 at *
     generalize impl_within e.2.1 0 100000 = b2 at *
     cases b1 <;> cases b2
     · exact stp rfl
     · exact stp rfl
     · exact stp rfl
     · exact nxt rfl
 · rw [if_neg (by simp [hlt])]
   exact al_end ha hlt
theorem eq (x0 : Maker) (x1 : Int) (_ : wf x0 x1) (hp : pre x0 x1 = true) : raw x0 x1 = some ((), (spec_MakerOk x0 x1, ())) := by
 have hs := small_iff.1 (show small x0.2.2.2.2.1 = true from hp)
 unfold raw spec_MakerOk mkHead
 rw [if_pos (show pre2 (x1, ((0 : Int), (x0, ()))) = true from al_start hs), show fn2 (x1, ((0 : Int), (x0, ()))) = _ from al_all]
 simp only [letB]
 cases allN (mkAtS x0) 0 x0.2.2.2.2.1.length
 · rfl
 simp only [cond_true]
 by_cases h1 : x1 < (x0.2.2.2.2.1.length : Int)
 · rw [if_pos (decide_eq_true h1), decide_eq_false (p := (x0.2.2.2.2.1.length : Int) ≤ x1) (by omega)]; rfl
 rw [if_neg (by simp [h1]), decide_eq_true (p := (x0.2.2.2.2.1.length : Int) ≤ x1) (by omega)]
 by_cases h2 : IntKind.wrap .i64 (x0.2.2.2.1 + 1) < (x0.2.2.2.2.1.length : Int)
 · rw [if_pos (decide_eq_true h2), decide_eq_false (p := (x0.2.2.2.2.1.length : Int) ≤ IntKind.wrap .i64 (x0.2.2.2.1 + 1)) (by omega)]; rfl
 rw [if_neg (by simp [h2]), decide_eq_true (p := (x0.2.2.2.2.1.length : Int) ≤ IntKind.wrap .i64 (x0.2.2.2.1 + 1)) (by omega)]
 generalize decide (0 ≤ x0.2.2.2.1) = c1
 generalize decide ((x0.2.2.2.2.1.length : Int) = 0) = c2
 cases c1 <;> cases c2 <;> cases impl_within x0.1 0 3 <;> cases impl_within x0.2.1 0 3 <;> cases impl_within x0.2.2.1 0 100000 <;> rfl
end spec_MakerOk
theorem ix_fin {α : Type} (x0 : List α) (x1 : (α → Bool) × (α → Bool)) :
 (letB (ixFn (x0, (x1.1, (x1.2, (((List.length x0 : Nat) : Int), ((0 : Int), ())))))) fun v => match v with | .inl y => some ((), y) | .inr y => some ((), ((-1 : Int), ()))) = some ((), (idxF x1.2 x0 0, ())) := by
 have hlo := (idxF_lo x1.2 x0 0 (by omega)).1
 by_cases h : idxF x1.2 x0 0 < 0
 · rw [show ixFn (x0, (x1.1, (x1.2, (((x0.length : Nat) : Int), ((0 : Int), ()))))) = .inr () from if_pos h, show idxF x1.2 x0 0 = -1 by omega]; rfl
 · rw [show ixFn (x0, (x1.1, (x1.2, (((x0.length : Nat) : Int), ((0 : Int), ()))))) = .inl (idxF x1.2 x0 0, ()) from if_neg h]; rfl
theorem ix_any {α : Type} (p : α → Bool) (x0 : List α) : decide (0 ≤ idxF p x0 0) = x0.any p := by
 rw [Bool.eq_iff_iff, decide_eq_true_eq]
 exact (idxF_lo p x0 0 (by omega)).2
def slices_IndexFunc_Int (xs : List Int) (p : (Int → Bool) × (Int → Bool)) : Int := idxF p.2 xs 0
namespace slices_IndexFunc_Int
def pre (xs : List Int) (p : (Int → Bool) × (Int → Bool)) : Bool := xs.all p.1
def pre2 := ixPre (α := Int)
def fn2 := ixFn (α := Int)
def mu2 := ixMu (α := Int)
noncomputable def raw2 (x1 : (List Int)) (x2 : (Int → Bool)) (x3 : (Int → Bool)) (x4 : Int) (x5 : Int) : Option (((List Int) × ((Int → Bool) × ((Int → Bool) × Mark))) ⊕ ((Int × Unit) ⊕ Unit)) :=
 if (decide (x5 < x4)) = true then
 if (decide ((0 : Int) ≤ x5)) = true then
 if (decide (x5 < ((List.length x1 : Nat) : Int))) = true then
 if (x2 (List.getD x1 (Int.toNat x5) (0 : Int))) = true then
 if (x3 (List.getD x1 (Int.toNat x5) (0 : Int))) = true then
 some (.inr (.inl (x5, ())))
 else
 some (.inl (x1, (x2, (x3, (x4, ((IntKind.wrap .i64 (x5 + (1 : Int))), ()))))))
 else
 none
 else
 none
 else
 none
 else
 some (.inr (.inr ()))
abbrev wf (x0 : (List Int)) (x1 : ((Int → Bool) × (Int → Bool))) : Prop := wfA [(.val (.sl 0 (.int .i64)) .f), (.fn (.int .i64) .bool)] (x0, (x1, ()))
noncomputable def raw (x0 : (List Int)) (x1 : ((Int → Bool) × (Int → Bool))) : Option zt28 :=
 if (slices_IndexFunc_Int.pre2 (x0, (x1.1, (x1.2, (((List.length x0 : Nat) : Int), ((0 : Int), ())))))) = true then
  letB (slices_IndexFunc_Int.fn2 (x0, (x1.1, (x1.2, (((List.length x0 : Nat) : Int), ((0 : Int), ())))))) fun v1 =>
  match v1 with
  | .inl y =>
   some ((), y)
  | .inr y =>
   some ((), ((-1 : Int), ()))
 else
  none
theorem ok2 (x1 : List Int) (x2 x3 : Int → Bool) (x4 x5 : Int) (hp : pre2 (x1, (x2, (x3, (x4, (x5, ()))))) = true) : Rounds pre2 mu2 fn2 (x1, (x2, (x3, (x4, (x5, ()))))) (raw2 x1 x2 x3 x4 x5) := by
 unfold raw2
 by_cases hlt : x5 < x4
 · obtain ⟨h1, h2, h3, h4, h5⟩ := ix_next hp hlt (0 : Int)
   simp only [hlt, h1, h2, h3, decide_true, if_true]
   split
   · rename_i h; exact h4 h
   · rename_i h; exact h5 h
 · simp only [hlt, decide_false, Bool.false_eq_true, if_false]
   exact ix_end hp hlt
theorem eq (x0 : List Int) (x1 : (Int → Bool) × (Int → Bool)) (hw : wf x0 x1) (hp : pre x0 x1 = true) : raw x0 x1 = some ((), (slices_IndexFunc_Int x0 x1, ())) := by
 have h1 : x0.length ≤ maxLen := hw.1.1
 unfold raw
 rw [if_pos (show pre2 _ = true by simp only [pre2, ixPre, Bool.and_eq_true, decide_eq_true_eq]; exact ⟨h1, trivial, by omega, by simp, hp⟩)]
 exact ix_fin x0 x1
end slices_IndexFunc_Int
def slices_ContainsFunc_Int (xs : List Int) (p : (Int → Bool) × (Int → Bool)) : Bool := xs.any p.2
namespace slices_ContainsFunc_Int
def pre (xs : List Int) (p : (Int → Bool) × (Int → Bool)) : Bool := xs.all p.1
abbrev wf (x0 : (List Int)) (x1 : ((Int → Bool) × (Int → Bool))) : Prop := wfA [(.val (.sl 0 (.int .i64)) .f), (.fn (.int .i64) .bool)] (x0, (x1, ()))
noncomputable def raw (x0 : (List Int)) (x1 : ((Int → Bool) × (Int → Bool))) : Option zt17 :=
 if (slices_IndexFunc_Int.pre x0 x1) = true then
 letB (slices_IndexFunc_Int x0 x1) fun v1 =>
 some ((), ((decide ((0 : Int) ≤ v1)), ()))
 else
 none
theorem eq (x0 : List Int) (x1 : (Int → Bool) × (Int → Bool)) (_ : wf x0 x1) (hp : pre x0 x1 = true) : raw x0 x1 = some ((), (slices_ContainsFunc_Int x0 x1, ())) := by
 unfold raw
 exact E_if (show slices_IndexFunc_Int.pre _ _ = true from hp) (congrArg (fun b => some ((), (b, ()))) (ix_any x1.2 x0))
end slices_ContainsFunc_Int
def slices_IndexFunc_Row (xs : List Row) (p : (Row → Bool) × (Row → Bool)) : Int := idxF p.2 xs 0
namespace slices_IndexFunc_Row
def pre (xs : List Row) (p : (Row → Bool) × (Row → Bool)) : Bool := xs.all p.1
def pre2 := ixPre (α := Row)
def fn2 := ixFn (α := Row)
def mu2 := ixMu (α := Row)
noncomputable def raw2 (x1 : (List Row)) (x2 : (Row → Bool)) (x3 : (Row → Bool)) (x4 : Int) (x5 : Int) : Option (((List Row) × ((Row → Bool) × ((Row → Bool) × Mark))) ⊕ ((Int × Unit) ⊕ Unit)) :=
 if (decide (x5 < x4)) = true then
 if (decide ((0 : Int) ≤ x5)) = true then
 if (decide (x5 < ((List.length x1 : Nat) : Int))) = true then
 if (x2 (List.getD x1 (Int.toNat x5) zd16)) = true then
 if (x3 (List.getD x1 (Int.toNat x5) zd16)) = true then
 some (.inr (.inl (x5, ())))
 else
 some (.inl (x1, (x2, (x3, (x4, ((IntKind.wrap .i64 (x5 + (1 : Int))), ()))))))
 else
 none
 else
 none
 else
 none
 else
 some (.inr (.inr ()))
abbrev wf (x0 : (List Row)) (x1 : ((Row → Bool) × (Row → Bool))) : Prop := wfA [(.val (.sl 0 zk18) .f), (.fn zk18 .bool)] (x0, (x1, ()))
noncomputable def raw (x0 : (List Row)) (x1 : ((Row → Bool) × (Row → Bool))) : Option zt28 :=
 if (slices_IndexFunc_Row.pre2 (x0, (x1.1, (x1.2, (((List.length x0 : Nat) : Int), ((0 : Int), ())))))) = true then
  letB (slices_IndexFunc_Row.fn2 (x0, (x1.1, (x1.2, (((List.length x0 : Nat) : Int), ((0 : Int), ())))))) fun v1 =>
  match v1 with
  | .inl y =>
   some ((), y)
  | .inr y =>
   some ((), ((-1 : Int), ()))
 else
  none
theorem ok2 (x1 : List Row) (x2 x3 : Row → Bool) (x4 x5 : Int) (hp : pre2 (x1, (x2, (x3, (x4, (x5, ()))))) = true) : Rounds pre2 mu2 fn2 (x1, (x2, (x3, (x4, (x5, ()))))) (raw2 x1 x2 x3 x4 x5) := by
 unfold raw2
 by_cases hlt : x5 < x4
 · obtain ⟨h1, h2, h3, h4, h5⟩ := ix_next hp hlt zd16
   simp only [hlt, h1, h2, h3, decide_true, if_true]
   split
   · rename_i h; exact h4 h
   · rename_i h; exact h5 h
 · simp only [hlt, decide_false, Bool.false_eq_true, if_false]
   exact ix_end hp hlt
theorem eq (x0 : List Row) (x1 : (Row → Bool) × (Row → Bool)) (hw : wf x0 x1) (hp : pre x0 x1 = true) : raw x0 x1 = some ((), (slices_IndexFunc_Row x0 x1, ())) := by
 have h1 : x0.length ≤ maxLen := hw.1.1
 unfold raw
 rw [if_pos (show pre2 _ = true by simp only [pre2, ixPre, Bool.and_eq_true, decide_eq_true_eq]; exact ⟨h1, trivial, by omega, by simp, hp⟩)]
 exact ix_fin x0 x1
end slices_IndexFunc_Row
def slices_ContainsFunc_Row (xs : List Row) (p : (Row → Bool) × (Row → Bool)) : Bool := xs.any p.2
namespace slices_ContainsFunc_Row
def pre (xs : List Row) (p : (Row → Bool) × (Row → Bool)) : Bool := xs.all p.1
abbrev wf (x0 : (List Row)) (x1 : ((Row → Bool) × (Row → Bool))) : Prop := wfA [(.val (.sl 0 zk18) .f), (.fn zk18 .bool)] (x0, (x1, ()))
noncomputable def raw (x0 : (List Row)) (x1 : ((Row → Bool) × (Row → Bool))) : Option zt17 :=
 if (slices_IndexFunc_Row.pre x0 x1) = true then
 letB (slices_IndexFunc_Row x0 x1) fun v1 =>
 some ((), ((decide ((0 : Int) ≤ v1)), ()))
 else
 none
theorem eq (x0 : List Row) (x1 : (Row → Bool) × (Row → Bool)) (_ : wf x0 x1) (hp : pre x0 x1 = true) : raw x0 x1 = some ((), (slices_ContainsFunc_Row x0 x1, ())) := by
 unfold raw
 exact E_if (show slices_IndexFunc_Row.pre _ _ = true from hp) (congrArg (fun b => some ((), (b, ()))) (ix_any x1.2 x0))
end slices_ContainsFunc_Row
def slices_IndexFunc_Group (xs : List Group) (p : (Group → Bool) × (Group → Bool)) : Int := idxF p.2 xs 0
namespace slices_IndexFunc_Group
def pre (xs : List Group) (p : (Group → Bool) × (Group → Bool)) : Bool := xs.all p.1
def pre2 := ixPre (α := Group)
def fn2 := ixFn (α := Group)
def mu2 := ixMu (α := Group)
noncomputable def raw2 (x1 : (List Group)) (x2 : (Group → Bool)) (x3 : (Group → Bool)) (x4 : Int) (x5 : Int) : Option (((List Group) × ((Group → Bool) × ((Group → Bool) × Mark))) ⊕ ((Int × Unit) ⊕ Unit)) :=
 if (decide (x5 < x4)) = true then
 if (decide ((0 : Int) ≤ x5)) = true then
 if (decide (x5 < ((List.length x1 : Nat) : Int))) = true then
 if (x2 (List.getD x1 (Int.toNat x5) zd11)) = true then
 if (x3 (List.getD x1 (Int.toNat x5) zd11)) = true then
 some (.inr (.inl (x5, ())))
 else
 some (.inl (x1, (x2, (x3, (x4, ((IntKind.wrap .i64 (x5 + (1 : Int))), ()))))))
 else
 none
 else
 none
 else
 none
 else
 some (.inr (.inr ()))
abbrev wf (x0 : (List Group)) (x1 : ((Group → Bool) × (Group → Bool))) : Prop := wfA [(.val (.sl 0 zk19) .f), (.fn zk19 .bool)] (x0, (x1, ()))
noncomputable def raw (x0 : (List Group)) (x1 : ((Group → Bool) × (Group → Bool))) : Option zt28 :=
 if (slices_IndexFunc_Group.pre2 (x0, (x1.1, (x1.2, (((List.length x0 : Nat) : Int), ((0 : Int), ())))))) = true then
  letB (slices_IndexFunc_Group.fn2 (x0, (x1.1, (x1.2, (((List.length x0 : Nat) : Int), ((0 : Int), ())))))) fun v1 =>
  match v1 with
  | .inl y =>
   some ((), y)
  | .inr y =>
   some ((), ((-1 : Int), ()))
 else
  none
theorem ok2 (x1 : List Group) (x2 x3 : Group → Bool) (x4 x5 : Int) (hp : pre2 (x1, (x2, (x3, (x4, (x5, ()))))) = true) : Rounds pre2 mu2 fn2 (x1, (x2, (x3, (x4, (x5, ()))))) (raw2 x1 x2 x3 x4 x5) := by
 unfold raw2
 by_cases hlt : x5 < x4
 · obtain ⟨h1, h2, h3, h4, h5⟩ := ix_next hp hlt zd11
   simp only [hlt, h1, h2, h3, decide_true, if_true]
   split
   · rename_i h; exact h4 h
   · rename_i h; exact h5 h
 · simp only [hlt, decide_false, Bool.false_eq_true, if_false]
   exact ix_end hp hlt
theorem eq (x0 : List Group) (x1 : (Group → Bool) × (Group → Bool)) (hw : wf x0 x1) (hp : pre x0 x1 = true) : raw x0 x1 = some ((), (slices_IndexFunc_Group x0 x1, ())) := by
 have h1 : x0.length ≤ maxLen := hw.1.1
 unfold raw
 rw [if_pos (show pre2 _ = true by simp only [pre2, ixPre, Bool.and_eq_true, decide_eq_true_eq]; exact ⟨h1, trivial, by omega, by simp, hp⟩)]
 exact ix_fin x0 x1
end slices_IndexFunc_Group
def slices_ContainsFunc_Group (xs : List Group) (p : (Group → Bool) × (Group → Bool)) : Bool := xs.any p.2
namespace slices_ContainsFunc_Group
def pre (xs : List Group) (p : (Group → Bool) × (Group → Bool)) : Bool := xs.all p.1
abbrev wf (x0 : (List Group)) (x1 : ((Group → Bool) × (Group → Bool))) : Prop := wfA [(.val (.sl 0 zk19) .f), (.fn zk19 .bool)] (x0, (x1, ()))
noncomputable def raw (x0 : (List Group)) (x1 : ((Group → Bool) × (Group → Bool))) : Option zt17 :=
 if (slices_IndexFunc_Group.pre x0 x1) = true then
 letB (slices_IndexFunc_Group x0 x1) fun v1 =>
 some ((), ((decide ((0 : Int) ≤ v1)), ()))
 else
 none
theorem eq (x0 : List Group) (x1 : (Group → Bool) × (Group → Bool)) (_ : wf x0 x1) (hp : pre x0 x1 = true) : raw x0 x1 = some ((), (slices_ContainsFunc_Group x0 x1, ())) := by
 unfold raw
 exact E_if (show slices_IndexFunc_Group.pre _ _ = true from hp) (congrArg (fun b => some ((), (b, ()))) (ix_any x1.2 x0))
end slices_ContainsFunc_Group
def slices_IndexFunc_Answer (xs : List Answer) (p : (Answer → Bool) × (Answer → Bool)) : Int := idxF p.2 xs 0
namespace slices_IndexFunc_Answer
def pre (xs : List Answer) (p : (Answer → Bool) × (Answer → Bool)) : Bool := xs.all p.1
def pre2 := ixPre (α := Answer)
def fn2 := ixFn (α := Answer)
def mu2 := ixMu (α := Answer)
noncomputable def raw2 (x1 : (List Answer)) (x2 : (Answer → Bool)) (x3 : (Answer → Bool)) (x4 : Int) (x5 : Int) : Option (((List Answer) × ((Answer → Bool) × ((Answer → Bool) × Mark))) ⊕ ((Int × Unit) ⊕ Unit)) :=
 if (decide (x5 < x4)) = true then
 if (decide ((0 : Int) ≤ x5)) = true then
 if (decide (x5 < ((List.length x1 : Nat) : Int))) = true then
 if (x2 (List.getD x1 (Int.toNat x5) zd9)) = true then
 if (x3 (List.getD x1 (Int.toNat x5) zd9)) = true then
 some (.inr (.inl (x5, ())))
 else
 some (.inl (x1, (x2, (x3, (x4, ((IntKind.wrap .i64 (x5 + (1 : Int))), ()))))))
 else
 none
 else
 none
 else
 none
 else
 some (.inr (.inr ()))
abbrev wf (x0 : (List Answer)) (x1 : ((Answer → Bool) × (Answer → Bool))) : Prop := wfA [(.val (.sl 0 zk20) .f), (.fn zk20 .bool)] (x0, (x1, ()))
noncomputable def raw (x0 : (List Answer)) (x1 : ((Answer → Bool) × (Answer → Bool))) : Option zt28 :=
 if (slices_IndexFunc_Answer.pre2 (x0, (x1.1, (x1.2, (((List.length x0 : Nat) : Int), ((0 : Int), ())))))) = true then
  letB (slices_IndexFunc_Answer.fn2 (x0, (x1.1, (x1.2, (((List.length x0 : Nat) : Int), ((0 : Int), ())))))) fun v1 =>
  match v1 with
  | .inl y =>
   some ((), y)
  | .inr y =>
   some ((), ((-1 : Int), ()))
 else
  none
theorem ok2 (x1 : List Answer) (x2 x3 : Answer → Bool) (x4 x5 : Int) (hp : pre2 (x1, (x2, (x3, (x4, (x5, ()))))) = true) : Rounds pre2 mu2 fn2 (x1, (x2, (x3, (x4, (x5, ()))))) (raw2 x1 x2 x3 x4 x5) := by
 unfold raw2
 by_cases hlt : x5 < x4
 · obtain ⟨h1, h2, h3, h4, h5⟩ := ix_next hp hlt zd9
   simp only [hlt, h1, h2, h3, decide_true, if_true]
   split
   · rename_i h; exact h4 h
   · rename_i h; exact h5 h
 · simp only [hlt, decide_false, Bool.false_eq_true, if_false]
   exact ix_end hp hlt
theorem eq (x0 : List Answer) (x1 : (Answer → Bool) × (Answer → Bool)) (hw : wf x0 x1) (hp : pre x0 x1 = true) : raw x0 x1 = some ((), (slices_IndexFunc_Answer x0 x1, ())) := by
 have h1 : x0.length ≤ maxLen := hw.1.1
 unfold raw
 rw [if_pos (show pre2 _ = true by simp only [pre2, ixPre, Bool.and_eq_true, decide_eq_true_eq]; exact ⟨h1, trivial, by omega, by simp, hp⟩)]
 exact ix_fin x0 x1
end slices_IndexFunc_Answer
def slices_ContainsFunc_Answer (xs : List Answer) (p : (Answer → Bool) × (Answer → Bool)) : Bool := xs.any p.2
namespace slices_ContainsFunc_Answer
def pre (xs : List Answer) (p : (Answer → Bool) × (Answer → Bool)) : Bool := xs.all p.1
abbrev wf (x0 : (List Answer)) (x1 : ((Answer → Bool) × (Answer → Bool))) : Prop := wfA [(.val (.sl 0 zk20) .f), (.fn zk20 .bool)] (x0, (x1, ()))
noncomputable def raw (x0 : (List Answer)) (x1 : ((Answer → Bool) × (Answer → Bool))) : Option zt17 :=
 if (slices_IndexFunc_Answer.pre x0 x1) = true then
 letB (slices_IndexFunc_Answer x0 x1) fun v1 =>
 some ((), ((decide ((0 : Int) ≤ v1)), ()))
 else
 none
theorem eq (x0 : List Answer) (x1 : (Answer → Bool) × (Answer → Bool)) (_ : wf x0 x1) (hp : pre x0 x1 = true) : raw x0 x1 = some ((), (slices_ContainsFunc_Answer x0 x1, ())) := by
 unfold raw
 exact E_if (show slices_IndexFunc_Answer.pre _ _ = true from hp) (congrArg (fun b => some ((), (b, ()))) (ix_any x1.2 x0))
end slices_ContainsFunc_Answer
def impl_isClient (n : Int) : Bool := impl_within n 0 3
namespace impl_isClient
def pre (n : Int) : Bool := decide (n ≤ n)
abbrev wf (x0 : Int) : Prop := wfA [(.val (.int .i64) .f)] (x0, ())
noncomputable def raw (x0 : Int) : Option zt17 :=
 letB (impl_within x0 (0 : Int) (3 : Int)) fun v1 =>
 some ((), (v1, ()))
theorem eq (x0 : Int) (_ : wf x0) (_ : pre x0 = true) : raw x0 = some ((), (impl_isClient x0, ())) := rfl
end impl_isClient
def impl_allWithin_1 (n lo hi : Int) : Bool := !impl_within n lo hi
namespace impl_allWithin_1
def pre (_ _ _ : Int) : Bool := true
abbrev wf (x0 : Int) (x1 : Int) (x2 : Int) : Prop := wfA [(.val (.int .i64) .f), (.peek (.int .i64)), (.peek (.int .i64))] (x0, (x1, (x2, ())))
noncomputable def raw (x0 : Int) (x1 : Int) (x2 : Int) : Option zt17 :=
 letB (impl_within x0 x1 x2) fun v1 =>
 some ((), ((!v1), ()))
theorem eq (x0 x1 x2 : Int) (_ : wf x0 x1 x2) (_ : pre x0 x1 x2 = true) : raw x0 x1 x2 = some ((), (impl_allWithin_1 x0 x1 x2, ())) := rfl
end impl_allWithin_1
def impl_allWithin (xs : List Int) (lo hi : Int) : Bool := xs.all fun n => impl_within n lo hi
namespace impl_allWithin
def pre (_ : List Int) (lo _ : Int) : Bool := decide (lo ≤ lo)
abbrev wf (x0 : (List Int)) (x1 : Int) (x2 : Int) : Prop := wfA [(.val (.sl 0 (.int .i64)) .f), (.val (.int .i64) .f), (.val (.int .i64) .f)] (x0, (x1, (x2, ())))
noncomputable def raw (x0 : (List Int)) (x1 : Int) (x2 : Int) : Option zt17 :=
 if (slices_ContainsFunc_Int.pre x0 ((fun x => (impl_allWithin_1.pre x x1 x2)), (fun x => (impl_allWithin_1 x x1 x2)))) = true then
 letB (slices_ContainsFunc_Int x0 ((fun x => (impl_allWithin_1.pre x x1 x2)), (fun x => (impl_allWithin_1 x x1 x2)))) fun v1 =>
 some ((), ((!v1), ()))
 else
 none
theorem eq (x0 : List Int) (x1 x2 : Int) (_ : wf x0 x1 x2) (_ : pre x0 x1 x2 = true) : raw x0 x1 x2 = some ((), (impl_allWithin x0 x1 x2, ())) := by
 unfold raw
 refine E_if (show slices_ContainsFunc_Int.pre _ _ = true by simp [slices_ContainsFunc_Int.pre, impl_allWithin_1.pre]) (congrArg (fun b => some ((), (b, ()))) ?_)
 show (!x0.any fun x => !impl_within x x1 x2) = _
 rw [any_not, Bool.not_not]; rfl
end impl_allWithin
def AnswerOk (a : Answer) : Bool := impl_within a.1 0 9 && (impl_within a.2.1 (-1) 100000 && (wordsOk a.2.2.1 && wordsOk a.2.2.2.1))
abbrev impl_AnswerOk := AnswerOk
abbrev spec_AnswerOk := AnswerOk
namespace impl_AnswerOk
def pre (a : Answer) : Bool := decide (a.1 ≤ a.1)
abbrev wf (x0 : Answer) : Prop := wfA [(.val zk20 .f)] (x0, ())
noncomputable def raw (x0 : Answer) : Option zt17 :=
 letB (impl_within x0.1 (0 : Int) (9 : Int)) fun v1 =>
 if v1 = true then
 letB (impl_within x0.2.1 (-1 : Int) (100000 : Int)) fun v2 =>
 if v2 = true then
 letB (wordsOk x0.2.2.1) fun v3 =>
 if v3 = true then
 letB (wordsOk x0.2.2.2.1) fun v4 =>
 some ((), (v4, ()))
 else
 some ((), (false, ()))
 else
 some ((), (false, ()))
 else
 some ((), (false, ()))
theorem eq (x0 : Answer) (_ : wf x0) (_ : pre x0 = true) : raw x0 = some ((), (impl_AnswerOk x0, ())) := by
 unfold raw impl_AnswerOk AnswerOk
 simp only [letB]
 cases impl_within x0.1 0 9 <;> cases impl_within x0.2.1 (-1) 100000 <;> cases wordsOk x0.2.2.1 <;> simp
end impl_AnswerOk
namespace spec_AnswerOk
def pre (a : Answer) : Bool := decide (a.1 ≤ a.1)
abbrev wf (x0 : Answer) : Prop := wfA [(.val zk20 .f)] (x0, ())
noncomputable def raw (x0 : Answer) : Option zt17 :=
 letB (impl_within x0.1 (0 : Int) (9 : Int)) fun v1 =>
 if v1 = true then
 letB (impl_within x0.2.1 (-1 : Int) (100000 : Int)) fun v2 =>
 if v2 = true then
 letB (wordsOk x0.2.2.1) fun v3 =>
 if v3 = true then
 letB (wordsOk x0.2.2.2.1) fun v4 =>
 some ((), (v4, ()))
 else
 some ((), (false, ()))
 else
 some ((), (false, ()))
 else
 some ((), (false, ()))
theorem eq (x0 : Answer) (_ : wf x0) (_ : pre x0 = true) : raw x0 = some ((), (spec_AnswerOk x0, ())) := by
 unfold raw spec_AnswerOk AnswerOk
 simp only [letB]
 cases impl_within x0.1 0 9 <;> cases impl_within x0.2.1 (-1) 100000 <;> cases wordsOk x0.2.2.1 <;> simp
end spec_AnswerOk
abbrev isClient := impl_isClient
def memAt (xs : List Int) (j : Nat) : Bool := isClient (xs.getD j (0 : Int)) && (decide (j = 0) || decide (xs.getD (j - 1) (0 : Int) < xs.getD j (0 : Int)))
def GroupOk (g : Group) (rows : Int) : Bool := decide ((g.2.2.1.length : Int) = (g.2.1.length : Int)) && (decide ((g.2.2.2.1.length : Int) = rows) && (impl_within g.1 0 100000 && (allN (memAt g.2.1) 0 g.2.1.length && (impl_allWithin g.2.2.1 0 100000 && impl_allWithin g.2.2.2.1 0 100000))))
abbrev impl_GroupOk := GroupOk
abbrev spec_GroupOk := GroupOk
namespace impl_GroupOk
abbrev S2 : Type := (Int × ((List Int) × (Int × (Int × (Group × Unit)))))
abbrev O2 : Type := ((Bool × Unit) ⊕ (Int × (Group × Unit)))
def pre (g : Group) (_ : Int) : Bool := groupS g
noncomputable def pre2 : S2 → Bool := fun (_, x2, x3, x4, x5, _) => same x2 x5.2.1 && (decide (x3 = (x5.2.1.length : Int)) && alPre x5.2.1.length x4)
def fn2 : S2 → O2 := fun (x1, _, _, x4, x5, _) => alFn (memAt x5.2.1) x5.2.1.length x4 (x1, (x5, ()))
def mu2 : S2 → Nat := fun (_, _, _, x4, x5, _) => x5.2.1.length - x4.toNat
noncomputable def raw2 (x1 : Int) (x2 : (List Int)) (x3 : Int) (x4 : Int) (x5 : Group) : Option ((Int × ((List Int) × (Int × (Int × (Group × Unit))))) ⊕ ((Bool × Unit) ⊕ (Int × (Group × Unit)))) :=
 if (decide (x4 < x3)) = true then
 if (decide ((0 : Int) ≤ x4)) = true then
 if (decide (x4 < ((List.length x2 : Nat) : Int))) = true then
 if (impl_isClient.pre (List.getD x2 (Int.toNat x4) (0 : Int))) = true then
 letB (isClient (List.getD x2 (Int.toNat x4) (0 : Int))) fun v1 =>
 if (!v1) = true then
 some (.inr (.inl (false, ())))
 else
 if (decide ((0 : Int) < x4)) = true then
 if (decide ((0 : Int) ≤ (IntKind.wrap .i64 (x4 - (1 : Int))))) = true then
 if (decide ((IntKind.wrap .i64 (x4 - (1 : Int))) < ((List.length x5.2.1 : Nat) : Int))) = true then
 if (decide ((List.getD x2 (Int.toNat x4) (0 : Int)) ≤ (List.getD x5.2.1 (Int.toNat (IntKind.wrap .i64 (x4 - (1 : Int)))) (0 : Int)))) = true then
 some (.inr (.inl (false, ())))
 else
 some (.inl (x1, (x2, (x3, ((IntKind.wrap .i64 (x4 + (1 : Int))), (x5, ()))))))
 else
 none
 else
 none
 else
 some (.inl (x1, (x2, (x3, ((IntKind.wrap .i64 (x4 + (1 : Int))), (x5, ()))))))
 else
 none
 else
 none
 else
 none
 else
 some (.inr (.inr (x1, (x5, ()))))
abbrev wf (x0 : Group) (x1 : Int) : Prop := wfA [(.val zk19 .f), (.val (.int .i64) .f)] (x0, (x1, ()))
noncomputable def raw (x0 : Group) (x1 : Int) : Option zt17 :=
 if (impl_GroupOk.pre2 (x1, (x0.2.1, (((List.length x0.2.1 : Nat) : Int), ((0 : Int), (x0, ())))))) = true then
  letB (impl_GroupOk.fn2 (x1, (x0.2.1, (((List.length x0.2.1 : Nat) : Int), ((0 : Int), (x0, ())))))) fun v1 =>
  match v1 with
  | .inl y =>
   some ((), y)
  | .inr y =>
   letB (impl_within y.2.1.1 (0 : Int) (100000 : Int)) fun v2 =>
   if v2 = true then
    if (decide (((List.length y.2.1.2.2.1 : Nat) : Int) = ((List.length y.2.1.2.1 : Nat) : Int))) = true then
     if (impl_allWithin.pre y.2.1.2.2.1 (0 : Int) (100000 : Int)) = true then
      letB (impl_allWithin y.2.1.2.2.1 (0 : Int) (100000 : Int)) fun v3 =>
      if v3 = true then
       if (decide (((List.length y.2.1.2.2.2.1 : Nat) : Int) = y.1)) = true then
        if (impl_allWithin.pre y.2.1.2.2.2.1 (0 : Int) (100000 : Int)) = true then
         letB (impl_allWithin y.2.1.2.2.2.1 (0 : Int) (100000 : Int)) fun v4 =>
         some ((), (v4, ()))
        else
         none
       else
        some ((), (false, ()))
      else
       some ((), (false, ()))
     else
      none
    else
     some ((), (false, ()))
   else
    some ((), (false, ()))
 else
  none
theorem ok2 (x1 : Int) (x2 : List Int) (x3 x4 : Int) (x5 : Group) (hp : pre2 (x1, (x2, (x3, (x4, (x5, ()))))) = true) : Rounds pre2 mu2 fn2 (x1, (x2, (x3, (x4, (x5, ()))))) (raw2 x1 x2 x3 x4 x5) := by
 simp only [pre2, Bool.and_eq_true, decide_eq_true_eq, same_true] at hp
 obtain ⟨rfl, rfl, ha⟩ := hp
 obtain ⟨h1, h2, h3⟩ := al_facts ha
 unfold raw2
 by_cases hlt : x4 < (x5.2.1.length : Int)
 · obtain ⟨n1, n2, n3, n4⟩ := al_step ha hlt
   have nxt : memAt x5.2.1 x4.toNat = true → Rounds pre2 mu2 fn2 (x1, (x5.2.1, ((x5.2.1.length : Int), (x4, (x5, ()))))) (some (.inl (x1, (x5.2.1, ((x5.2.1.length : Int), (x4 + 1, (x5, ()))))))) :=
    fun h => ⟨by simp only [pre2, same_self, n2]; simp, n3, al_next ha hlt h⟩
   have stp : memAt x5.2.1 x4.toNat = false → Rounds pre2 mu2 fn2 (x1, (x5.2.1, ((x5.2.1.length : Int), (x4, (x5, ()))))) (some (.inr (.inl (false, ())))) := fun h => al_stop ha hlt h
   simp only [letB, n1, hlt, h2, decide_true, if_true, show impl_isClient.pre (x5.2.1.getD x4.toNat (0 : Int)) = true from decide_eq_true (Int.le_refl _)]
   simp only [memAt] at nxt stp
   by_cases h0 : 0 < x4
   · obtain ⟨p1, p2, p3, p4, p5⟩ := al_prev ha h0
     simp only [p1, p2, p3, p4, h0, decide_true, if_true]
     simp only [p5, decide_false, Bool.false_or] at nxt stp
     generalize x5.2.1.getD x4.toNat (0 : Int) = e at *
     generalize x5.2.1.getD (x4.toNat - 1) (0 : Int) = e' at *
     generalize isClient e = b1 at *
     by_cases hd : e ≤ e'
     · simp only [hd, show ¬ e' < e by omega, decide_true, decide_false, if_true] at *
       cases b1 <;> exact stp rfl
     · simp only [hd, show e' < e by omega, decide_true, decide_false] at *
       cases b1
       · exact stp rfl
       · exact nxt rfl
   · have p5 : x4.toNat = 0 := by omega
     simp only [h0, decide_false, Bool.false_eq_true, if_false]
     simp only [p5, decide_true, Bool.true_or, Bool.and_true] at nxt stp ⊢
     generalize x5.2.1.getD 0 (0 : Int) = e at *
     generalize isClient e = b1 at *
     cases b1
     · exact stp rfl
     · exact nxt rfl
 · rw [if_neg (by simp [hlt])]
   exact al_end ha hlt
theorem eq (x0 : Group) (x1 : Int) (_ : wf x0 x1) (hp : pre x0 x1 = true) : raw x0 x1 = some ((), (impl_GroupOk x0 x1, ())) := by
 have hp : groupS x0 = true := hp
 simp only [groupS, Bool.and_eq_true, small_iff] at hp
 unfold raw impl_GroupOk GroupOk
 rw [if_pos (show pre2 (x1, (x0.2.1, ((x0.2.1.length : Int), ((0 : Int), (x0, ()))))) = true by simp only [pre2, same_self, al_start hp.1]; simp),
  show fn2 (x1, (x0.2.1, ((x0.2.1.length : Int), ((0 : Int), (x0, ()))))) = _ from al_all]
 simp only [letB]
 cases allN (memAt x0.2.1) 0 x0.2.1.length
 · simp
 simp only [cond_true, show ∀ l : List Int, impl_allWithin.pre l 0 100000 = true from fun _ => rfl, if_true]
 cases impl_within x0.1 0 100000 <;> cases decide ((x0.2.2.1.length : Int) = (x0.2.1.length : Int)) <;> cases decide ((x0.2.2.2.1.length : Int) = x1) <;> cases impl_allWithin x0.2.2.1 0 100000 <;> rfl
end impl_GroupOk
namespace spec_GroupOk
abbrev S4 : Type := (Int × (Group × Unit))
abbrev O4 : Type := ((Bool × Unit) ⊕ (Group × Unit))
abbrev S9 : Type := (Int × (Group × Unit))
abbrev O9 : Type := ((Bool × Unit) ⊕ Unit)
def pre (g : Group) (_ : Int) : Bool := groupS g
def gAt (g : Group) (j : Nat) : Bool := memAt g.2.1 j && impl_within (g.2.2.1.getD j (0 : Int)) 0 100000
def oAt (g : Group) (j : Nat) : Bool := impl_within (g.2.2.2.1.getD j (0 : Int)) 0 100000
def pre4 : S4 → Bool := fun (x1, x2, _) => decide (x2.2.2.1.length = x2.2.1.length) && (decide (x2.2.2.2.1.length ≤ 16777216) && alPre x2.2.1.length x1)
def fn4 : S4 → O4 := fun (x1, x2, _) => alFn (gAt x2) x2.2.1.length x1 (x2, ())
def mu4 : S4 → Nat := fun (x1, x2, _) => x2.2.1.length - x1.toNat
def pre9 : S9 → Bool := fun (x1, x2, _) => alPre x2.2.2.2.1.length x1
def fn9 : S9 → O9 := fun (x1, x2, _) => alFn (oAt x2) x2.2.2.2.1.length x1 ()
def mu9 : S9 → Nat := fun (x1, x2, _) => x2.2.2.2.1.length - x1.toNat
noncomputable def raw4 (x1 : Int) (x2 : Group) : Option ((Int × (Group × Unit)) ⊕ ((Bool × Unit) ⊕ (Group × Unit))) :=
 if (decide (x1 < ((List.length x2.2.1 : Nat) : Int))) = true then
 if (decide ((0 : Int) ≤ x1)) = true then
 if (decide (x1 < ((List.length x2.2.1 : Nat) : Int))) = true then
 letB (impl_within (List.getD x2.2.1 (Int.toNat x1) (0 : Int)) (0 : Int) (3 : Int)) fun v1 =>
 if (!v1) = true then
 some (.inr (.inl (false, ())))
 else
 if (decide ((0 : Int) < x1)) = true then
 if (decide ((0 : Int) ≤ (IntKind.wrap .i64 (x1 - (1 : Int))))) = true then
 if (decide ((IntKind.wrap .i64 (x1 - (1 : Int))) < ((List.length x2.2.1 : Nat) : Int))) = true then
 if (decide ((0 : Int) ≤ x1)) = true then
 if (decide (x1 < ((List.length x2.2.1 : Nat) : Int))) = true then
 if (decide ((List.getD x2.2.1 (Int.toNat x1) (0 : Int)) ≤ (List.getD x2.2.1 (Int.toNat (IntKind.wrap .i64 (x1 - (1 : Int)))) (0 : Int)))) = true then
 some (.inr (.inl (false, ())))
 else
 if (decide ((0 : Int) ≤ x1)) = true then
 if (decide (x1 < ((List.length x2.2.2.1 : Nat) : Int))) = true then
 letB (impl_within (List.getD x2.2.2.1 (Int.toNat x1) (0 : Int)) (0 : Int) (100000 : Int)) fun v2 =>
 if (!v2) = true then
 some (.inr (.inl (false, ())))
 else
 some (.inl ((IntKind.wrap .i64 (x1 + (1 : Int))), (x2, ())))
 else
 none
 else
 none
 else
 none
 else
 none
 else
 none
 else
 none
 else
 if (decide ((0 : Int) ≤ x1)) = true then
 if (decide (x1 < ((List.length x2.2.2.1 : Nat) : Int))) = true then
 letB (impl_within (List.getD x2.2.2.1 (Int.toNat x1) (0 : Int)) (0 : Int) (100000 : Int)) fun v3 =>
 if (!v3) = true then
 some (.inr (.inl (false, ())))
 else
 some (.inl ((IntKind.wrap .i64 (x1 + (1 : Int))), (x2, ())))
 else
 none
 else
 none
 else
 none
 else
 none
 else
 some (.inr (.inr (x2, ())))
noncomputable def raw9 (x1 : Int) (x2 : Group) : Option ((Int × (Group × Unit)) ⊕ ((Bool × Unit) ⊕ Unit)) :=
 if (decide (x1 < ((List.length x2.2.2.2.1 : Nat) : Int))) = true then
 if (decide ((0 : Int) ≤ x1)) = true then
 if (decide (x1 < ((List.length x2.2.2.2.1 : Nat) : Int))) = true then
 letB (impl_within (List.getD x2.2.2.2.1 (Int.toNat x1) (0 : Int)) (0 : Int) (100000 : Int)) fun v1 =>
 if (!v1) = true then
 some (.inr (.inl (false, ())))
 else
 some (.inl ((IntKind.wrap .i64 (x1 + (1 : Int))), (x2, ())))
 else
 none
 else
 none
 else
 some (.inr (.inr ()))
abbrev wf (x0 : Group) (x1 : Int) : Prop := wfA [(.val zk19 .f), (.val (.int .i64) .f)] (x0, (x1, ()))
noncomputable def raw (x0 : Group) (x1 : Int) : Option zt17 :=
 if (!(decide (((List.length x0.2.2.1 : Nat) : Int) = ((List.length x0.2.1 : Nat) : Int)))) = true then
  some ((), (false, ()))
 else
  if (!(decide (((List.length x0.2.2.2.1 : Nat) : Int) = x1))) = true then
   some ((), (false, ()))
  else
   letB (impl_within x0.1 (0 : Int) (100000 : Int)) fun v1 =>
   if (!v1) = true then
    some ((), (false, ()))
   else
    if (spec_GroupOk.pre4 ((0 : Int), (x0, ()))) = true then
     letB (spec_GroupOk.fn4 ((0 : Int), (x0, ()))) fun v2 =>
     match v2 with
     | .inl y =>
      some ((), y)
     | .inr y =>
      if (spec_GroupOk.pre9 ((0 : Int), y)) = true then
       letB (spec_GroupOk.fn9 ((0 : Int), y)) fun v3 =>
       match v3 with
       | .inl y_1 =>
        some ((), y_1)
       | .inr y_1 =>
        some ((), (true, ()))
      else
       none
    else
     none
theorem ok4 (x1 : Int) (x2 : Group) (hp : pre4 (x1, (x2, ())) = true) : Rounds pre4 mu4 fn4 (x1, (x2, ())) (raw4 x1 x2) := by
 simp only [pre4, Bool.and_eq_true, decide_eq_true_eq] at hp
 obtain ⟨hb, ho, ha⟩ := hp
 obtain ⟨h1, h2, h3⟩ := al_facts ha
 unfold raw4
 by_cases hlt : x1 < (x2.2.1.length : Int)
 · obtain ⟨n1, n2, n3, n4⟩ := al_step ha hlt
   have hlt' : x1 < (x2.2.2.1.length : Int) := by omega
   have nxt : gAt x2 x1.toNat = true → Rounds pre4 mu4 fn4 (x1, (x2, ())) (some (.inl (x1 + 1, (x2, ())))) := fun h => ⟨by simp only [pre4, n2, hb, ho]; simp, n3, al_next ha hlt h⟩
   have stp : gAt x2 x1.toNat = false → Rounds pre4 mu4 fn4 (x1, (x2, ())) (some (.inr (.inl (false, ())))) := fun h => al_stop ha hlt h
   simp only [letB, n1, hlt, hlt', h2, decide_true, if_true]
   simp only [gAt, memAt, isClient, impl_isClient] at nxt stp
   generalize x2.2.2.1.getD x1.toNat (0 : Int) = f at *
   generalize impl_within f 0 100000 = b2 at *
   by_cases h0 : 0 < x1
   · obtain ⟨p1, p2, p3, p4, p5⟩ := al_prev ha h0
     simp only [p1, p2, p3, p4, h0, decide_true, if_true]
     simp only [p5, decide_false, Bool.false_or] at nxt stp
     generalize x2.2.1.getD x1.toNat (0 : Int) = e at *
     generalize x2.2.1.getD (x1.toNat - 1) (0 : Int) = e' at *
     generalize impl_within e 0 3 = b1 at *
     by_cases hd : e ≤ e'
     · simp only [hd, show ¬ e' < e by omega, decide_true, decide_false, if_true] at *
       cases b1 <;> exact stp rfl
     · simp only [hd, show e' < e by omega, decide_true, decide_false] at *
       cases b1 <;> cases b2
       · exact stp rfl
       · exact stp rfl
       · exact stp rfl
       · exact nxt rfl
   · have p5 : x1.toNat = 0 := by omega
     simp only [h0, decide_false, Bool.false_eq_true, if_false]
     simp only [p5, decide_true, Bool.true_or, Bool.and_true] at nxt stp ⊢
     generalize x2.2.1.getD 0 (0 : Int) = e at *
     generalize impl_within e 0 3 = b1 at *
     cases b1 <;> cases b2
     · exact stp rfl
     · exact stp rfl
     · exact stp rfl
     · exact nxt rfl
 · rw [if_neg (by simp [hlt])]
   exact al_end ha hlt
theorem ok9 (x1 : Int) (x2 : Group) (ha : pre9 (x1, (x2, ())) = true) : Rounds pre9 mu9 fn9 (x1, (x2, ())) (raw9 x1 x2) := by
 have ha : alPre x2.2.2.2.1.length x1 = true := ha
 obtain ⟨h1, h2, h3⟩ := al_facts ha
 unfold raw9
 by_cases hlt : x1 < (x2.2.2.2.1.length : Int)
 · obtain ⟨n1, n2, n3, n4⟩ := al_step ha hlt
   have nxt : oAt x2 x1.toNat = true → Rounds pre9 mu9 fn9 (x1, (x2, ())) (some (.inl (x1 + 1, (x2, ())))) := fun h => ⟨n2, n3, al_next ha hlt h⟩
   have stp : oAt x2 x1.toNat = false → Rounds pre9 mu9 fn9 (x1, (x2, ())) (some (.inr (.inl (false, ())))) := fun h => al_stop ha hlt h
   simp only [letB, n1, hlt, h2, decide_true, if_true]
   simp only [oAt] at nxt stp
   generalize x2.2.2.2.1.getD x1.toNat (0 : Int) = f at *
   generalize impl_within f 0 100000 = b2 at *
   cases b2
   · exact stp rfl
   · exact nxt rfl
 · rw [if_neg (by simp [hlt])]
   exact al_end ha hlt
theorem eq (x0 : Group) (x1 : Int) (_ : wf x0 x1) (hp : pre x0 x1 = true) : raw x0 x1 = some ((), (spec_GroupOk x0 x1, ())) := by
 have hp : groupS x0 = true := hp
 simp only [groupS, Bool.and_eq_true, small_iff] at hp
 unfold raw spec_GroupOk GroupOk
 by_cases hb : (x0.2.2.1.length : Int) = (x0.2.1.length : Int)
 case neg => rw [if_pos (by simp [hb]), decide_eq_false hb]; rfl
 rw [if_neg (by simp [hb]), decide_eq_true hb]
 by_cases ho : (x0.2.2.2.1.length : Int) = x1
 case neg => rw [if_pos (by simp [ho]), decide_eq_false ho]; rfl
 rw [if_neg (by simp [ho]), decide_eq_true ho]
 simp only [letB]
 cases impl_within x0.1 0 100000
 · rfl
 rw [if_neg (by decide), if_pos (show pre4 ((0 : Int), (x0, ())) = true by simp only [pre4, al_start hp.1, decide_eq_true (p := x0.2.2.1.length = x0.2.1.length) (by omega), decide_eq_true hp.2.2]; rfl),
  show fn4 ((0 : Int), (x0, ())) = _ from al_all, show allN (gAt x0) 0 x0.2.1.length = (allN (memAt x0.2.1) 0 x0.2.1.length && impl_allWithin x0.2.2.1 0 100000) by
   rw [show gAt x0 = fun j => memAt x0.2.1 j && impl_within (x0.2.2.1.getD j (0 : Int)) 0 100000 from rfl, allN_and, show x0.2.1.length = x0.2.2.1.length by omega]
   exact congrArg _ (allN_all (p := fun n => impl_within n 0 100000))]
 cases allN (memAt x0.2.1) 0 x0.2.1.length
 · rfl
 cases impl_allWithin x0.2.2.1 0 100000
 · rfl
 simp only [Bool.and_true, cond_true]
 rw [if_pos (show pre9 ((0 : Int), (x0, ())) = true from al_start hp.2.2), show fn9 ((0 : Int), (x0, ())) = _ from al_all, show allN (oAt x0) 0 x0.2.2.2.1.length = impl_allWithin x0.2.2.2.1 0 100000 from allN_all (p := fun n => impl_within n 0 100000)]
 cases impl_allWithin x0.2.2.2.1 0 100000 <;> rfl
end spec_GroupOk
def impl_KeepOk_1 (r : Row) : Bool := !RowOk r
namespace impl_KeepOk_1
def pre (r : Row) : Bool := small r.2.2.1
abbrev wf (x0 : Row) : Prop := wfA [(.val zk18 .f)] (x0, ())
noncomputable def raw (x0 : Row) : Option zt17 :=
 if (impl_RowOk.pre x0) = true then
 letB (RowOk x0) fun v1 =>
 some ((), ((!v1), ()))
 else
 none
theorem eq (x0 : Row) (_ : wf x0) (hp : pre x0 = true) : raw x0 = some ((), (impl_KeepOk_1 x0, ())) := E_if (show impl_RowOk.pre x0 = true from hp) rfl
end impl_KeepOk_1
def impl_KeepOk_2 (g : Group) (s : Setup) : Bool := !GroupOk g s.1
namespace impl_KeepOk_2
def pre (g : Group) (_ : Setup) : Bool := groupS g
abbrev wf (x0 : Group) (x1 : Setup) : Prop := wfA [(.val zk19 .f), (.peek zk25)] (x0, (x1, ()))
noncomputable def raw (x0 : Group) (x1 : Setup) : Option zt17 :=
 if (impl_GroupOk.pre x0 x1.1) = true then
 letB (GroupOk x0 x1.1) fun v1 =>
 some ((), ((!v1), ()))
 else
 none
theorem eq (x0 : Group) (x1 : Setup) (_ : wf x0 x1) (hp : pre x0 x1 = true) : raw x0 x1 = some ((), (impl_KeepOk_2 x0 x1, ())) := E_if (show impl_GroupOk.pre x0 x1.1 = true from hp) rfl
end impl_KeepOk_2
def impl_KeepOk_3 (a : Answer) : Bool := !AnswerOk a
namespace impl_KeepOk_3
def pre (a : Answer) : Bool := decide (a.1 ≤ a.1)
abbrev wf (x0 : Answer) : Prop := wfA [(.val zk20 .f)] (x0, ())
noncomputable def raw (x0 : Answer) : Option zt17 :=
 if (impl_AnswerOk.pre x0) = true then
 letB (AnswerOk x0) fun v1 =>
 some ((), ((!v1), ()))
 else
 none
theorem eq (x0 : Answer) (_ : wf x0) (_ : pre x0 = true) : raw x0 = some ((), (impl_KeepOk_3 x0, ())) := E_if (show impl_AnswerOk.pre x0 = true from decide_eq_true (Int.le_refl _)) rfl
end impl_KeepOk_3
def mkrAt (mk : Maker → Int → Bool) (s : Setup) (ms : List Maker) (j : Nat) : Bool :=
 mk (ms.getD j zd7) s.2.1 && (decide ((ms.getD j zd7).1 < s.1) && (decide (j = 0) || (decide ((ms.getD (j - 1) zd7).1 ≤ (ms.getD j zd7).1) && !(decide ((ms.getD (j - 1) zd7).1 = (ms.getD j zd7).1) && decide ((ms.getD j zd7).2.1 ≤ (ms.getD (j - 1) zd7).2.1)))))
def keepOk (mk : Maker → Int → Bool) (s : Setup) (k : Keep) : Bool :=
 SetupOk s && (decide ((k.1.length : Int) = s.1) && (decide ((k.2.2.1.length : Int) = 2) && (impl_within k.2.2.2.1 0 100000 && (decide ((k.2.2.2.2.1.length : Int) = 4) && (impl_allWithin k.2.2.2.2.1 0 100000 && (decide ((k.2.2.2.2.2.1.length : Int) = 4) &&
  (allN (mkrAt mk s k.2.1) 0 k.2.1.length && (k.1.all RowOk && (k.2.2.1.all (fun g => GroupOk g s.1) && k.2.2.2.2.2.1.all AnswerOk)))))))))
def impl_KeepOk (s : Setup) (k : Keep) : Bool := keepOk impl_MakerOk s k
def spec_KeepOk (s : Setup) (k : Keep) : Bool := keepOk spec_MakerOk s k
theorem contains_not {α : Type} (f : α → Bool) (xs : List α) : (!xs.any fun x => !f x) = xs.all f := by rw [any_not, Bool.not_not]
def keepS (x : Keep) : Bool := small x.1 && (x.1.all (fun r : Row => small r.2.2.1) && (small x.2.1 && (x.2.1.all (fun m : Maker => small m.2.2.2.2.1) && (small x.2.2.1 && (x.2.2.1.all groupS && (small x.2.2.2.2.1 && small x.2.2.2.2.2.1))))))
namespace impl_KeepOk
abbrev S4 : Type := ((List Maker) × (Int × (Int × zt36)))
abbrev O4 : Type := ((Bool × Unit) ⊕ zt36)
def pre (_ : Setup) (k : Keep) : Bool := keepS k
noncomputable def pre4 : S4 → Bool := fun (x1, x2, x3, _, x5, _) => same x1 x5.2.1 && (decide (x2 = (x5.2.1.length : Int)) && (x5.2.1.all (fun m : Maker => small m.2.2.2.2.1) && alPre x5.2.1.length x3))
def fn4 : S4 → O4 := fun (_, _, x3, x4, x5, _) => alFn (mkrAt impl_MakerOk x4 x5.2.1) x5.2.1.length x3 (x4, (x5, ()))
def mu4 : S4 → Nat := fun (_, _, x3, _, x5, _) => x5.2.1.length - x3.toNat
noncomputable def raw4 (x1 : (List Maker)) (x2 : Int) (x3 : Int) (x4 : Setup) (x5 : zt6) : Option (((List Maker) × (Int × (Int × zt36))) ⊕ ((Bool × Unit) ⊕ zt36)) :=
 if (decide (x3 < x2)) = true then
 if (decide ((0 : Int) ≤ x3)) = true then
 if (decide (x3 < ((List.length x1 : Nat) : Int))) = true then
 if (impl_MakerOk.pre (List.getD x1 (Int.toNat x3) zd7) x4.2.1) = true then
 letB (impl_MakerOk (List.getD x1 (Int.toNat x3) zd7) x4.2.1) fun v1 =>
 if (!v1) = true then
 some (.inr (.inl (false, ())))
 else
 if (decide (x4.1 ≤ (List.getD x1 (Int.toNat x3) zd7).1)) = true then
 some (.inr (.inl (false, ())))
 else
 if (decide ((0 : Int) < x3)) = true then
 if (decide ((0 : Int) ≤ (IntKind.wrap .i64 (x3 - (1 : Int))))) = true then
 if (decide ((IntKind.wrap .i64 (x3 - (1 : Int))) < ((List.length x5.2.1 : Nat) : Int))) = true then
 if (decide ((List.getD x1 (Int.toNat x3) zd7).1 < (List.getD x5.2.1 (Int.toNat (IntKind.wrap .i64 (x3 - (1 : Int)))) zd7).1)) = true then
 some (.inr (.inl (false, ())))
 else
 if (decide ((0 : Int) ≤ (IntKind.wrap .i64 (x3 - (1 : Int))))) = true then
 if (decide ((IntKind.wrap .i64 (x3 - (1 : Int))) < ((List.length x5.2.1 : Nat) : Int))) = true then
 if (decide ((List.getD x5.2.1 (Int.toNat (IntKind.wrap .i64 (x3 - (1 : Int)))) zd7).1 = (List.getD x1 (Int.toNat x3) zd7).1)) = true then
 if (decide ((0 : Int) ≤ (IntKind.wrap .i64 (x3 - (1 : Int))))) = true then
 if (decide ((IntKind.wrap .i64 (x3 - (1 : Int))) < ((List.length x5.2.1 : Nat) : Int))) = true then
 if (decide ((List.getD x1 (Int.toNat x3) zd7).2.1 ≤ (List.getD x5.2.1 (Int.toNat (IntKind.wrap .i64 (x3 - (1 : Int)))) zd7).2.1)) = true then
 some (.inr (.inl (false, ())))
 else
 some (.inl (x1, (x2, ((IntKind.wrap .i64 (x3 + (1 : Int))), (x4, (x5, ()))))))
 else
 none
 else
 none
 else
 some (.inl (x1, (x2, ((IntKind.wrap .i64 (x3 + (1 : Int))), (x4, (x5, ()))))))
 else
 none
 else
 none
 else
 none
 else
 none
 else
 some (.inl (x1, (x2, ((IntKind.wrap .i64 (x3 + (1 : Int))), (x4, (x5, ()))))))
 else
 none
 else
 none
 else
 none
 else
 some (.inr (.inr (x4, (x5, ()))))
abbrev wf (x0 : Setup) (x1 : zt6) : Prop := wfA [(.val zk25 .f), (.val zk1 .f)] (x0, (x1, ()))
noncomputable def raw (x0 : Setup) (x1 : zt6) : Option zt17 :=
 letB (SetupOk x0) fun v1 =>
 if (!v1) = true then
  some ((), (false, ()))
 else
  if (!(decide (((List.length x1.1 : Nat) : Int) = x0.1))) = true then
   some ((), (false, ()))
  else
   if (!(decide (((List.length x1.2.2.1 : Nat) : Int) = (2 : Int)))) = true then
    some ((), (false, ()))
   else
    letB (impl_within x1.2.2.2.1 (0 : Int) (100000 : Int)) fun v2 =>
    if (!v2) = true then
     some ((), (false, ()))
    else
     if (!(decide (((List.length x1.2.2.2.2.1 : Nat) : Int) = (4 : Int)))) = true then
      some ((), (false, ()))
     else
      if (impl_allWithin.pre x1.2.2.2.2.1 (0 : Int) (100000 : Int)) = true then
       letB (impl_allWithin x1.2.2.2.2.1 (0 : Int) (100000 : Int)) fun v3 =>
       if (!v3) = true then
        some ((), (false, ()))
       else
        if (!(decide (((List.length x1.2.2.2.2.2.1 : Nat) : Int) = (4 : Int)))) = true then
         some ((), (false, ()))
        else
         if (impl_KeepOk.pre4 (x1.2.1, (((List.length x1.2.1 : Nat) : Int), ((0 : Int), (x0, (x1, ())))))) = true then
          letB (impl_KeepOk.fn4 (x1.2.1, (((List.length x1.2.1 : Nat) : Int), ((0 : Int), (x0, (x1, ())))))) fun v4 =>
          match v4 with
          | .inl y =>
           some ((), y)
          | .inr y =>
           if (slices_ContainsFunc_Row.pre y.2.1.1 ((fun x => (impl_KeepOk_1.pre x)), (fun x => (impl_KeepOk_1 x)))) = true then
            if (slices_ContainsFunc_Group.pre y.2.1.2.2.1 ((fun x => (impl_KeepOk_2.pre x y.1)), (fun x => (impl_KeepOk_2 x y.1)))) = true then
             if (slices_ContainsFunc_Answer.pre y.2.1.2.2.2.2.2.1 ((fun x => (impl_KeepOk_3.pre x)), (fun x => (impl_KeepOk_3 x)))) = true then
              letB (slices_ContainsFunc_Row y.2.1.1 ((fun x => (impl_KeepOk_1.pre x)), (fun x => (impl_KeepOk_1 x)))) fun v5 =>
              if (!v5) = true then
               letB (slices_ContainsFunc_Group y.2.1.2.2.1 ((fun x => (impl_KeepOk_2.pre x y.1)), (fun x => (impl_KeepOk_2 x y.1)))) fun v6 =>
               if (!v6) = true then
                letB (slices_ContainsFunc_Answer y.2.1.2.2.2.2.2.1 ((fun x => (impl_KeepOk_3.pre x)), (fun x => (impl_KeepOk_3 x)))) fun v7 =>
                some ((), ((!v7), ()))
               else
                some ((), (false, ()))
              else
               some ((), (false, ()))
             else
              none
            else
             none
           else
            none
         else
          none
      else
       none
theorem ok4 (x1 : List Maker) (x2 x3 : Int) (x4 : Setup) (x5 : Keep) (hp : pre4 (x1, (x2, (x3, (x4, (x5, ()))))) = true) : Rounds pre4 mu4 fn4 (x1, (x2, (x3, (x4, (x5, ()))))) (raw4 x1 x2 x3 x4 x5) := by
 simp only [pre4, Bool.and_eq_true, decide_eq_true_eq, same_true] at hp
 obtain ⟨rfl, rfl, hs, ha⟩ := hp
 obtain ⟨h1, h2, h3⟩ := al_facts ha
 unfold raw4
 by_cases hlt : x3 < (x5.2.1.length : Int)
 · obtain ⟨n1, n2, n3, n4⟩ := al_step ha hlt
   have nxt : mkrAt impl_MakerOk x4 x5.2.1 x3.toNat = true → Rounds pre4 mu4 fn4 (x5.2.1, ((x5.2.1.length : Int), (x3, (x4, (x5, ()))))) (some (.inl (x5.2.1, ((x5.2.1.length : Int), (x3 + 1, (x4, (x5, ()))))))) :=
    fun h => ⟨by simp only [pre4, same_self, n2, hs]; simp, n3, al_next ha hlt h⟩
   have stp : mkrAt impl_MakerOk x4 x5.2.1 x3.toNat = false → Rounds pre4 mu4 fn4 (x5.2.1, ((x5.2.1.length : Int), (x3, (x4, (x5, ()))))) (some (.inr (.inl (false, ())))) := fun h => al_stop ha hlt h
   have hq : impl_MakerOk.pre (x5.2.1.getD x3.toNat zd7) x4.2.1 = true := all_getD hs (show x3.toNat < x5.2.1.length by omega) _
   simp only [letB, n1, hlt, h2, hq, decide_true, if_true]
   simp only [mkrAt] at nxt stp
   generalize impl_MakerOk (x5.2.1.getD x3.toNat zd7) x4.2.1 = b1 at *
   by_cases h0 : 0 < x3
   · obtain ⟨p1, p2, p3, p4, p5⟩ := al_prev ha h0
     simp only [p1, p2, p3, p4, h0, decide_true, if_true]
     simp only [p5, decide_false, Bool.false_or] at nxt stp
     generalize x5.2.1.getD x3.toNat zd7 = e at *
     generalize x5.2.1.getD (x3.toNat - 1) zd7 = e' at *
     cases b1
     · exact stp rfl
     by_cases c1 : x4.1 ≤ e.1
     · simp only [c1, show ¬ e.1 < x4.1 by omega, decide_true, decide_false] at *
       exact stp rfl
     by_cases c2 : e.1 < e'.1
     · simp only [c1, c2, show e.1 < x4.1 by omega, show ¬ e'.1 ≤ e.1 by omega, decide_true, decide_false] at *
       exact stp rfl
     by_cases c3 : e'.1 = e.1
     · by_cases c4 : e.2.1 ≤ e'.2.1
       · simp only [c1, c2, c3, c4, show e.1 < x4.1 by omega, show e'.1 ≤ e.1 by omega, Int.le_refl, Int.lt_irrefl, decide_true, decide_false] at *
         exact stp rfl
       · simp only [c1, c2, c3, c4, show e.1 < x4.1 by omega, show e'.1 ≤ e.1 by omega, Int.le_refl, Int.lt_irrefl, decide_true, decide_false] at *
         exact nxt rfl
     · simp only [c1, c2, c3, show e.1 < x4.1 by omega, show e'.1 ≤ e.1 by omega, decide_true, decide_false] at *
       exact nxt rfl
   · have p5 : x3.toNat = 0 := by omega
     simp only [h0, decide_false, Bool.false_eq_true, if_false]
     simp only [p5, decide_true, Bool.true_or, Bool.and_true] at nxt stp ⊢
     generalize x5.2.1.getD 0 zd7 = e at *
     cases b1
     · exact stp rfl
     by_cases c1 : x4.1 ≤ e.1
     · simp only [c1, show ¬ e.1 < x4.1 by omega, decide_true, decide_false] at *
       exact stp rfl
     · simp only [c1, show e.1 < x4.1 by omega, decide_true, decide_false] at *
       exact nxt rfl
 · rw [if_neg (by simp [hlt])]
   exact al_end ha hlt
theorem eq (x0 : Setup) (x1 : Keep) (_ : wf x0 x1) (hp : pre x0 x1 = true) : raw x0 x1 = some ((), (impl_KeepOk x0 x1, ())) := by
 have hp : keepS x1 = true := hp
 simp only [keepS, Bool.and_eq_true] at hp
 obtain ⟨a1, a2, a3, a4, a5, a6, a7, a8⟩ := hp
 unfold raw impl_KeepOk keepOk
 simp only [letB]
 cases SetupOk x0
 · rfl
 by_cases b1 : (x1.1.length : Int) = x0.1
 case neg => rw [if_neg (by decide), if_pos (by simp [b1]), decide_eq_false b1]; rfl
 rw [if_neg (by decide), if_neg (by simp [b1]), decide_eq_true b1]
 by_cases b2 : (x1.2.2.1.length : Int) = 2
 case neg => rw [if_pos (by simp [b2]), decide_eq_false b2]; rfl
 rw [if_neg (by simp [b2]), decide_eq_true b2]
 cases impl_within x1.2.2.2.1 0 100000
 · rfl
 by_cases b3 : (x1.2.2.2.2.1.length : Int) = 4
 case neg => rw [if_neg (by decide), if_pos (by simp [b3]), decide_eq_false b3]; rfl
 rw [if_neg (by decide), if_neg (by simp [b3]), decide_eq_true b3, if_pos (show impl_allWithin.pre x1.2.2.2.2.1 0 100000 = true from rfl)]
 cases impl_allWithin x1.2.2.2.2.1 0 100000
 · rfl
 by_cases b4 : (x1.2.2.2.2.2.1.length : Int) = 4
 case neg => rw [if_neg (by decide), if_pos (by simp [b4]), decide_eq_false b4]; rfl
 rw [if_neg (by decide), if_neg (by simp [b4]), decide_eq_true b4,
  if_pos (show pre4 (x1.2.1, ((x1.2.1.length : Int), ((0 : Int), (x0, (x1, ()))))) = true by simp only [pre4, same_self, al_start (small_iff.1 a3), a4]; simp),
  show fn4 (x1.2.1, ((x1.2.1.length : Int), ((0 : Int), (x0, (x1, ()))))) = _ from al_all]
 cases allN (mkrAt impl_MakerOk x0 x1.2.1) 0 x1.2.1.length
 · rfl
 simp only [cond_true]
 rw [if_pos (show slices_ContainsFunc_Row.pre x1.1 ((fun x => impl_KeepOk_1.pre x), fun x => impl_KeepOk_1 x) = true from a2),
  if_pos (show slices_ContainsFunc_Group.pre x1.2.2.1 ((fun x => impl_KeepOk_2.pre x x0), fun x => impl_KeepOk_2 x x0) = true from a6),
  if_pos (show slices_ContainsFunc_Answer.pre x1.2.2.2.2.2.1 ((fun x => impl_KeepOk_3.pre x), fun x => impl_KeepOk_3 x) = true by simp [slices_ContainsFunc_Answer.pre, impl_KeepOk_3.pre]),
  show (!slices_ContainsFunc_Row x1.1 ((fun x => impl_KeepOk_1.pre x), fun x => impl_KeepOk_1 x)) = x1.1.all RowOk from contains_not _ _,
  show (!slices_ContainsFunc_Group x1.2.2.1 ((fun x => impl_KeepOk_2.pre x x0), fun x => impl_KeepOk_2 x x0)) = x1.2.2.1.all (fun g => GroupOk g x0.1) from contains_not (fun g => GroupOk g x0.1) _,
  show (!slices_ContainsFunc_Answer x1.2.2.2.2.2.1 ((fun x => impl_KeepOk_3.pre x), fun x => impl_KeepOk_3 x)) = x1.2.2.2.2.2.1.all AnswerOk from contains_not _ _]
 cases x1.1.all RowOk
 · rfl
 cases x1.2.2.1.all (fun g => GroupOk g x0.1) <;> rfl
end impl_KeepOk
def spec_l6Makers (s : Setup) (ms : List Maker) : Bool := allN (mkrAt spec_MakerOk s ms) 0 ms.length
namespace spec_l6Makers
abbrev S2 : Type := ((List Maker) × (Int × (Setup × Unit)))
abbrev O2 : Type := ((Bool × Unit) ⊕ Unit)
def pre (_ : Setup) (ms : List Maker) : Bool := small ms && ms.all (fun m : Maker => small m.2.2.2.2.1)
def pre2 : S2 → Bool := fun (x1, x2, _, _) => x1.all (fun m : Maker => small m.2.2.2.2.1) && alPre x1.length x2
def fn2 : S2 → O2 := fun (x1, x2, x3, _) => alFn (mkrAt spec_MakerOk x3 x1) x1.length x2 ()
def mu2 : S2 → Nat := fun (x1, x2, _, _) => x1.length - x2.toNat
noncomputable def raw2 (x1 : (List Maker)) (x2 : Int) (x3 : Setup) : Option (((List Maker) × (Int × (Setup × Unit))) ⊕ ((Bool × Unit) ⊕ Unit)) :=
 if (decide (x2 < ((List.length x1 : Nat) : Int))) = true then
 if (decide ((0 : Int) ≤ x2)) = true then
 if (decide (x2 < ((List.length x1 : Nat) : Int))) = true then
 if (spec_MakerOk.pre (List.getD x1 (Int.toNat x2) zd7) x3.2.1) = true then
 letB (spec_MakerOk (List.getD x1 (Int.toNat x2) zd7) x3.2.1) fun v1 =>
 if (!v1) = true then
 some (.inr (.inl (false, ())))
 else
 if (decide (x3.1 ≤ (List.getD x1 (Int.toNat x2) zd7).1)) = true then
 some (.inr (.inl (false, ())))
 else
 if (decide ((0 : Int) < x2)) = true then
 if (decide ((0 : Int) ≤ (IntKind.wrap .i64 (x2 - (1 : Int))))) = true then
 if (decide ((IntKind.wrap .i64 (x2 - (1 : Int))) < ((List.length x1 : Nat) : Int))) = true then
 if (decide ((List.getD x1 (Int.toNat x2) zd7).1 < (List.getD x1 (Int.toNat (IntKind.wrap .i64 (x2 - (1 : Int)))) zd7).1)) = true then
 some (.inr (.inl (false, ())))
 else
 if (decide ((0 : Int) ≤ (IntKind.wrap .i64 (x2 - (1 : Int))))) = true then
 if (decide ((IntKind.wrap .i64 (x2 - (1 : Int))) < ((List.length x1 : Nat) : Int))) = true then
 if (decide ((List.getD x1 (Int.toNat (IntKind.wrap .i64 (x2 - (1 : Int)))) zd7).1 = (List.getD x1 (Int.toNat x2) zd7).1)) = true then
 if (decide ((0 : Int) ≤ (IntKind.wrap .i64 (x2 - (1 : Int))))) = true then
 if (decide ((IntKind.wrap .i64 (x2 - (1 : Int))) < ((List.length x1 : Nat) : Int))) = true then
 if (decide ((List.getD x1 (Int.toNat x2) zd7).2.1 ≤ (List.getD x1 (Int.toNat (IntKind.wrap .i64 (x2 - (1 : Int)))) zd7).2.1)) = true then
 some (.inr (.inl (false, ())))
 else
 some (.inl (x1, ((IntKind.wrap .i64 (x2 + (1 : Int))), (x3, ()))))
 else
 none
 else
 none
 else
 some (.inl (x1, ((IntKind.wrap .i64 (x2 + (1 : Int))), (x3, ()))))
 else
 none
 else
 none
 else
 none
 else
 none
 else
 some (.inl (x1, ((IntKind.wrap .i64 (x2 + (1 : Int))), (x3, ()))))
 else
 none
 else
 none
 else
 none
 else
 some (.inr (.inr ()))
abbrev wf (x0 : Setup) (x1 : (List Maker)) : Prop := wfA [(.val zk25 .f), (.val (.sl 0 zk23) .f)] (x0, (x1, ()))
noncomputable def raw (x0 : Setup) (x1 : (List Maker)) : Option zt17 :=
 if (spec_l6Makers.pre2 (x1, ((0 : Int), (x0, ())))) = true then
  letB (spec_l6Makers.fn2 (x1, ((0 : Int), (x0, ())))) fun v1 =>
  match v1 with
  | .inl y =>
   some ((), y)
  | .inr y =>
   some ((), (true, ()))
 else
  none
theorem ok2 (x1 : List Maker) (x2 : Int) (x3 : Setup) (hp : pre2 (x1, (x2, (x3, ()))) = true) : Rounds pre2 mu2 fn2 (x1, (x2, (x3, ()))) (raw2 x1 x2 x3) := by
 simp only [pre2, Bool.and_eq_true] at hp
 obtain ⟨hs, ha⟩ := hp
 obtain ⟨h1, h2, h3⟩ := al_facts ha
 unfold raw2
 by_cases hlt : x2 < (x1.length : Int)
 · obtain ⟨n1, n2, n3, n4⟩ := al_step ha hlt
   have nxt : mkrAt spec_MakerOk x3 x1 x2.toNat = true → Rounds pre2 mu2 fn2 (x1, (x2, (x3, ()))) (some (.inl (x1, (x2 + 1, (x3, ()))))) :=
    fun h => ⟨by simp only [pre2, n2, hs]; simp, n3, al_next ha hlt h⟩
   have stp : mkrAt spec_MakerOk x3 x1 x2.toNat = false → Rounds pre2 mu2 fn2 (x1, (x2, (x3, ()))) (some (.inr (.inl (false, ())))) := fun h => al_stop ha hlt h
   have hq : spec_MakerOk.pre (x1.getD x2.toNat zd7) x3.2.1 = true := all_getD hs (show x2.toNat < x1.length by omega) _
   simp only [letB, n1, hlt, h2, hq, decide_true, if_true]
   simp only [mkrAt] at nxt stp
   generalize spec_MakerOk (x1.getD x2.toNat zd7) x3.2.1 = b1 at *
   by_cases h0 : 0 < x2
   · obtain ⟨p1, p2, p3, p4, p5⟩ := al_prev ha h0
     simp only [p1, p2, p3, p4, h0, decide_true, if_true]
     simp only [p5, decide_false, Bool.false_or] at nxt stp
     generalize x1.getD x2.toNat zd7 = e at *
     generalize x1.getD (x2.toNat - 1) zd7 = e' at *
     cases b1
     · exact stp rfl
     by_cases c1 : x3.1 ≤ e.1
     · simp only [c1, show ¬ e.1 < x3.1 by omega, decide_true, decide_false] at *
       exact stp rfl
     by_cases c2 : e.1 < e'.1
     · simp only [c1, c2, show e.1 < x3.1 by omega, show ¬ e'.1 ≤ e.1 by omega, decide_true, decide_false] at *
       exact stp rfl
     by_cases c3 : e'.1 = e.1
     · by_cases c4 : e.2.1 ≤ e'.2.1
       · simp only [c1, c2, c3, c4, show e.1 < x3.1 by omega, show e'.1 ≤ e.1 by omega, Int.le_refl, Int.lt_irrefl, decide_true, decide_false] at *
         exact stp rfl
       · simp only [c1, c2, c3, c4, show e.1 < x3.1 by omega, show e'.1 ≤ e.1 by omega, Int.le_refl, Int.lt_irrefl, decide_true, decide_false] at *
         exact nxt rfl
     · simp only [c1, c2, c3, show e.1 < x3.1 by omega, show e'.1 ≤ e.1 by omega, decide_true, decide_false] at *
       exact nxt rfl
   · have p5 : x2.toNat = 0 := by omega
     simp only [h0, decide_false, Bool.false_eq_true, if_false]
     simp only [p5, decide_true, Bool.true_or, Bool.and_true] at nxt stp ⊢
     generalize x1.getD 0 zd7 = e at *
     cases b1
     · exact stp rfl
     by_cases c1 : x3.1 ≤ e.1
     · simp only [c1, show ¬ e.1 < x3.1 by omega, decide_true, decide_false] at *
       exact stp rfl
     · simp only [c1, show e.1 < x3.1 by omega, decide_true, decide_false] at *
       exact nxt rfl
 · rw [if_neg (by simp [hlt])]
   exact al_end ha hlt
theorem eq (x0 : Setup) (x1 : List Maker) (_ : wf x0 x1) (hp : pre x0 x1 = true) : raw x0 x1 = some ((), (spec_l6Makers x0 x1, ())) := by
 simp only [pre, Bool.and_eq_true] at hp
 unfold raw spec_l6Makers
 rw [if_pos (show pre2 (x1, ((0 : Int), (x0, ()))) = true by simp only [pre2, hp.2, al_start (small_iff.1 hp.1)]; rfl), show fn2 (x1, ((0 : Int), (x0, ()))) = _ from al_all]
 cases allN (mkrAt spec_MakerOk x0 x1) 0 x1.length <;> rfl
end spec_l6Makers
namespace spec_KeepOk
abbrev S4 : Type := (Int × zt36)
abbrev O4 : Type := ((Bool × Unit) ⊕ zt36)
abbrev S9 : Type := (Int × zt36)
abbrev O9 : Type := ((Bool × Unit) ⊕ (zt6 × Unit))
abbrev S14 : Type := (Int × (zt6 × Unit))
abbrev O14 : Type := ((Bool × Unit) ⊕ Unit)
def pre (_ : Setup) (k : Keep) : Bool := keepS k
def dAt (k : Keep) (j : Nat) : Bool := impl_within (k.2.2.2.2.1.getD j (0 : Int)) 0 100000 && AnswerOk (k.2.2.2.2.2.1.getD j zd9)
def pre4 : S4 → Bool := fun (x1, x2, x3, _) => decide ((x3.1.length : Int) = x2.1) && (x3.1.all (fun r : Row => small r.2.2.1) && alPre x3.1.length x1)
def fn4 : S4 → O4 := fun (x1, x2, x3, _) => alFn (fun j => RowOk (x3.1.getD j zd16)) x3.1.length x1 (x2, (x3, ()))
def mu4 : S4 → Nat := fun (x1, _, x3, _) => x3.1.length - x1.toNat
def pre9 : S9 → Bool := fun (x1, _, x3, _) => decide ((x3.2.2.1.length : Int) = 2) && (x3.2.2.1.all groupS && alPre x3.2.2.1.length x1)
def fn9 : S9 → O9 := fun (x1, x2, x3, _) => alFn (fun j => GroupOk (x3.2.2.1.getD j zd11) x2.1) x3.2.2.1.length x1 (x3, ())
def mu9 : S9 → Nat := fun (x1, _, x3, _) => x3.2.2.1.length - x1.toNat
def pre14 : S14 → Bool := fun (x1, x2, _) => decide ((x2.2.2.2.2.1.length : Int) = 4) && (decide ((x2.2.2.2.2.2.1.length : Int) = 4) && alPre x2.2.2.2.2.1.length x1)
def fn14 : S14 → O14 := fun (x1, x2, _) => alFn (dAt x2) x2.2.2.2.2.1.length x1 ()
def mu14 : S14 → Nat := fun (x1, x2, _) => x2.2.2.2.2.1.length - x1.toNat
noncomputable def raw4 (x1 : Int) (x2 : Setup) (x3 : zt6) : Option ((Int × zt36) ⊕ ((Bool × Unit) ⊕ zt36)) :=
 if (decide (x1 < x2.1)) = true then
 if (decide ((0 : Int) ≤ x1)) = true then
 if (decide (x1 < ((List.length x3.1 : Nat) : Int))) = true then
 if (spec_RowOk.pre (List.getD x3.1 (Int.toNat x1) zd16)) = true then
 letB (RowOk (List.getD x3.1 (Int.toNat x1) zd16)) fun v1 =>
 if (!v1) = true then
 some (.inr (.inl (false, ())))
 else
 some (.inl ((IntKind.wrap .i64 (x1 + (1 : Int))), (x2, (x3, ()))))
 else
 none
 else
 none
 else
 none
 else
 some (.inr (.inr (x2, (x3, ()))))
noncomputable def raw9 (x1 : Int) (x2 : Setup) (x3 : zt6) : Option ((Int × zt36) ⊕ ((Bool × Unit) ⊕ (zt6 × Unit))) :=
 if (decide (x1 < (2 : Int))) = true then
 if (decide ((0 : Int) ≤ x1)) = true then
 if (decide (x1 < ((List.length x3.2.2.1 : Nat) : Int))) = true then
 if (spec_GroupOk.pre (List.getD x3.2.2.1 (Int.toNat x1) zd11) x2.1) = true then
 letB (GroupOk (List.getD x3.2.2.1 (Int.toNat x1) zd11) x2.1) fun v1 =>
 if (!v1) = true then
 some (.inr (.inl (false, ())))
 else
 some (.inl ((IntKind.wrap .i64 (x1 + (1 : Int))), (x2, (x3, ()))))
 else
 none
 else
 none
 else
 none
 else
 some (.inr (.inr (x3, ())))
noncomputable def raw14 (x1 : Int) (x2 : zt6) : Option ((Int × (zt6 × Unit)) ⊕ ((Bool × Unit) ⊕ Unit)) :=
 if (decide (x1 < (4 : Int))) = true then
 if (decide ((0 : Int) ≤ x1)) = true then
 if (decide (x1 < ((List.length x2.2.2.2.2.1 : Nat) : Int))) = true then
 letB (impl_within (List.getD x2.2.2.2.2.1 (Int.toNat x1) (0 : Int)) (0 : Int) (100000 : Int)) fun v1 =>
 if (!v1) = true then
 some (.inr (.inl (false, ())))
 else
 if (decide ((0 : Int) ≤ x1)) = true then
 if (decide (x1 < ((List.length x2.2.2.2.2.2.1 : Nat) : Int))) = true then
 if (spec_AnswerOk.pre (List.getD x2.2.2.2.2.2.1 (Int.toNat x1) zd9)) = true then
 letB (AnswerOk (List.getD x2.2.2.2.2.2.1 (Int.toNat x1) zd9)) fun v2 =>
 if (!v2) = true then
 some (.inr (.inl (false, ())))
 else
 some (.inl ((IntKind.wrap .i64 (x1 + (1 : Int))), (x2, ())))
 else
 none
 else
 none
 else
 none
 else
 none
 else
 none
 else
 some (.inr (.inr ()))
abbrev wf (x0 : Setup) (x1 : zt6) : Prop := wfA [(.val zk25 .f), (.val zk1 .f)] (x0, (x1, ()))
noncomputable def raw (x0 : Setup) (x1 : zt6) : Option zt17 :=
 letB (SetupOk x0) fun v1 =>
 if (!v1) = true then
  some ((), (false, ()))
 else
  if (!(decide (((List.length x1.1 : Nat) : Int) = x0.1))) = true then
   some ((), (false, ()))
  else
   if (!(decide (((List.length x1.2.2.1 : Nat) : Int) = (2 : Int)))) = true then
    some ((), (false, ()))
   else
    if (!(decide (((List.length x1.2.2.2.2.1 : Nat) : Int) = (4 : Int)))) = true then
     some ((), (false, ()))
    else
     if (!(decide (((List.length x1.2.2.2.2.2.1 : Nat) : Int) = (4 : Int)))) = true then
      some ((), (false, ()))
     else
      letB (impl_within x1.2.2.2.1 (0 : Int) (100000 : Int)) fun v2 =>
      if (!v2) = true then
       some ((), (false, ()))
      else
       if (spec_l6Makers.pre x0 x1.2.1) = true then
        letB (spec_l6Makers x0 x1.2.1) fun v3 =>
        if (!v3) = true then
         some ((), (false, ()))
        else
         if (spec_KeepOk.pre4 ((0 : Int), (x0, (x1, ())))) = true then
          letB (spec_KeepOk.fn4 ((0 : Int), (x0, (x1, ())))) fun v4 =>
          match v4 with
          | .inl y =>
           some ((), y)
          | .inr y =>
           if (spec_KeepOk.pre9 ((0 : Int), y)) = true then
            letB (spec_KeepOk.fn9 ((0 : Int), y)) fun v5 =>
            match v5 with
            | .inl y_1 =>
             some ((), y_1)
            | .inr y_1 =>
             if (spec_KeepOk.pre14 ((0 : Int), y_1)) = true then
              letB (spec_KeepOk.fn14 ((0 : Int), y_1)) fun v6 =>
              match v6 with
              | .inl y_2 =>
               some ((), y_2)
              | .inr y_2 =>
               some ((), (true, ()))
             else
              none
           else
            none
         else
          none
       else
        none
theorem ok4 (x1 : Int) (x2 : Setup) (x3 : Keep) (hp : pre4 (x1, (x2, (x3, ()))) = true) : Rounds pre4 mu4 fn4 (x1, (x2, (x3, ()))) (raw4 x1 x2 x3) := by
 simp only [pre4, Bool.and_eq_true, decide_eq_true_eq] at hp
 obtain ⟨hl, hs, ha⟩ := hp
 obtain ⟨h1, h2, h3⟩ := al_facts ha
 unfold raw4
 by_cases hlt : x1 < (x3.1.length : Int)
 · obtain ⟨n1, n2, n3, n4⟩ := al_step ha hlt
   have hlt' : x1 < x2.1 := by omega
   have nxt : RowOk (x3.1.getD x1.toNat zd16) = true → Rounds pre4 mu4 fn4 (x1, (x2, (x3, ()))) (some (.inl (x1 + 1, (x2, (x3, ()))))) :=
    fun h => ⟨by simp only [pre4, n2, hs, hl]; simp, n3, al_next (ok := fun j => RowOk (x3.1.getD j zd16)) ha hlt h⟩
   have stp : RowOk (x3.1.getD x1.toNat zd16) = false → Rounds pre4 mu4 fn4 (x1, (x2, (x3, ()))) (some (.inr (.inl (false, ())))) := fun h => al_stop (ok := fun j => RowOk (x3.1.getD j zd16)) ha hlt h
   have hq : spec_RowOk.pre (x3.1.getD x1.toNat zd16) = true := all_getD hs (show x1.toNat < x3.1.length by omega) _
   simp only [letB, n1, hlt, hlt', h2, hq, decide_true, if_true]
   generalize RowOk (x3.1.getD x1.toNat zd16) = b at *
   cases b
   · exact stp rfl
   · exact nxt rfl
 · rw [if_neg (by rw [decide_eq_true_eq]; omega)]
   exact al_end ha hlt
theorem ok9 (x1 : Int) (x2 : Setup) (x3 : Keep) (hp : pre9 (x1, (x2, (x3, ()))) = true) : Rounds pre9 mu9 fn9 (x1, (x2, (x3, ()))) (raw9 x1 x2 x3) := by
 simp only [pre9, Bool.and_eq_true, decide_eq_true_eq] at hp
 obtain ⟨hl, hs, ha⟩ := hp
 obtain ⟨h1, h2, h3⟩ := al_facts ha
 unfold raw9
 by_cases hlt : x1 < (x3.2.2.1.length : Int)
 · obtain ⟨n1, n2, n3, n4⟩ := al_step ha hlt
   have hlt' : x1 < 2 := by omega
   have nxt : GroupOk (x3.2.2.1.getD x1.toNat zd11) x2.1 = true → Rounds pre9 mu9 fn9 (x1, (x2, (x3, ()))) (some (.inl (x1 + 1, (x2, (x3, ()))))) :=
    fun h => ⟨by simp only [pre9, n2, hs, hl]; simp, n3, al_next (ok := fun j => GroupOk (x3.2.2.1.getD j zd11) x2.1) ha hlt h⟩
   have stp : GroupOk (x3.2.2.1.getD x1.toNat zd11) x2.1 = false → Rounds pre9 mu9 fn9 (x1, (x2, (x3, ()))) (some (.inr (.inl (false, ())))) := fun h => al_stop (ok := fun j => GroupOk (x3.2.2.1.getD j zd11) x2.1) ha hlt h
   have hq : spec_GroupOk.pre (x3.2.2.1.getD x1.toNat zd11) x2.1 = true := all_getD hs (show x1.toNat < x3.2.2.1.length by omega) _
   simp only [letB, n1, hlt, hlt', h2, hq, decide_true, if_true]
   generalize GroupOk (x3.2.2.1.getD x1.toNat zd11) x2.1 = b at *
   cases b
   · exact stp rfl
   · exact nxt rfl
 · rw [if_neg (by rw [decide_eq_true_eq]; omega)]
   exact al_end ha hlt
theorem ok14 (x1 : Int) (x2 : Keep) (hp : pre14 (x1, (x2, ())) = true) : Rounds pre14 mu14 fn14 (x1, (x2, ())) (raw14 x1 x2) := by
 simp only [pre14, Bool.and_eq_true, decide_eq_true_eq] at hp
 obtain ⟨hl, hs, ha⟩ := hp
 obtain ⟨h1, h2, h3⟩ := al_facts ha
 unfold raw14
 by_cases hlt : x1 < (x2.2.2.2.2.1.length : Int)
 · obtain ⟨n1, n2, n3, n4⟩ := al_step ha hlt
   have hlt' : x1 < 4 := by omega
   have hlt2 : x1 < (x2.2.2.2.2.2.1.length : Int) := by omega
   have nxt : dAt x2 x1.toNat = true → Rounds pre14 mu14 fn14 (x1, (x2, ())) (some (.inl (x1 + 1, (x2, ())))) :=
    fun h => ⟨by simp only [pre14, n2, hs, hl]; simp, n3, al_next ha hlt h⟩
   have stp : dAt x2 x1.toNat = false → Rounds pre14 mu14 fn14 (x1, (x2, ())) (some (.inr (.inl (false, ())))) := fun h => al_stop ha hlt h
   have hq : spec_AnswerOk.pre (x2.2.2.2.2.2.1.getD x1.toNat zd9) = true := decide_eq_true (Int.le_refl _)
   simp only [letB, n1, hlt, hlt', hlt2, h2, hq, decide_true, if_true]
   simp only [dAt] at nxt stp
   generalize AnswerOk (x2.2.2.2.2.2.1.getD x1.toNat zd9) = b at *
   generalize impl_within (x2.2.2.2.2.1.getD x1.toNat (0 : Int)) 0 100000 = c at *
   cases c <;> cases b
   · exact stp rfl
   · exact stp rfl
   · exact stp rfl
   · exact nxt rfl
 · rw [if_neg (by rw [decide_eq_true_eq]; omega)]
   exact al_end ha hlt
theorem eq (x0 : Setup) (x1 : Keep) (_ : wf x0 x1) (hp : pre x0 x1 = true) : raw x0 x1 = some ((), (spec_KeepOk x0 x1, ())) := by
 have hp : keepS x1 = true := hp
 simp only [keepS, Bool.and_eq_true] at hp
 obtain ⟨a1, a2, a3, a4, a5, a6, a7, a8⟩ := hp
 unfold raw spec_KeepOk keepOk
 simp only [letB]
 cases SetupOk x0
 · rfl
 by_cases b1 : (x1.1.length : Int) = x0.1
 case neg => rw [if_neg (by decide), if_pos (by simp [b1]), decide_eq_false b1]; rfl
 rw [if_neg (by decide), if_neg (by simp [b1]), decide_eq_true b1]
 by_cases b2 : (x1.2.2.1.length : Int) = 2
 case neg => rw [if_pos (by simp [b2]), decide_eq_false b2]; rfl
 rw [if_neg (by simp [b2]), decide_eq_true b2]
 by_cases b3 : (x1.2.2.2.2.1.length : Int) = 4
 case neg => rw [if_pos (by simp [b3]), decide_eq_false b3]; cases impl_within x1.2.2.2.1 0 100000 <;> rfl
 rw [if_neg (by simp [b3]), decide_eq_true b3]
 by_cases b4 : (x1.2.2.2.2.2.1.length : Int) = 4
 case neg => rw [if_pos (by simp [b4]), decide_eq_false b4]; cases impl_within x1.2.2.2.1 0 100000 <;> cases impl_allWithin x1.2.2.2.2.1 0 100000 <;> rfl
 rw [if_neg (by simp [b4]), decide_eq_true b4]
 cases impl_within x1.2.2.2.1 0 100000
 · rfl
 rw [if_neg (by decide), if_pos (show spec_l6Makers.pre x0 x1.2.1 = true by simp only [spec_l6Makers.pre, a3, a4]; rfl)]
 unfold spec_l6Makers
 cases allN (mkrAt spec_MakerOk x0 x1.2.1) 0 x1.2.1.length
 · cases impl_allWithin x1.2.2.2.2.1 0 100000 <;> rfl
 rw [if_neg (by decide), if_pos (show pre4 ((0 : Int), (x0, (x1, ()))) = true by simp only [pre4, al_start (small_iff.1 a1), a2, decide_eq_true b1]; rfl),
  show fn4 ((0 : Int), (x0, (x1, ()))) = _ from al_all, show allN (fun j => RowOk (x1.1.getD j zd16)) 0 x1.1.length = x1.1.all RowOk from allN_all]
 cases x1.1.all RowOk
 · cases impl_allWithin x1.2.2.2.2.1 0 100000 <;> rfl
 simp only [cond_true]
 rw [if_pos (show pre9 ((0 : Int), (x0, (x1, ()))) = true by simp only [pre9, al_start (small_iff.1 a5), a6, decide_eq_true b2]; rfl),
  show fn9 ((0 : Int), (x0, (x1, ()))) = _ from al_all, show allN (fun j => GroupOk (x1.2.2.1.getD j zd11) x0.1) 0 x1.2.2.1.length = x1.2.2.1.all (fun g => GroupOk g x0.1) from allN_all (p := fun g => GroupOk g x0.1)]
 cases x1.2.2.1.all (fun g => GroupOk g x0.1)
 · cases impl_allWithin x1.2.2.2.2.1 0 100000 <;> rfl
 simp only [cond_true]
 rw [if_pos (show pre14 ((0 : Int), (x1, ())) = true by simp only [pre14, al_start (small_iff.1 a7), decide_eq_true b3, decide_eq_true b4]; rfl),
  show fn14 ((0 : Int), (x1, ())) = _ from al_all, show allN (dAt x1) 0 x1.2.2.2.2.1.length = (impl_allWithin x1.2.2.2.2.1 0 100000 && x1.2.2.2.2.2.1.all AnswerOk) by
   rw [show dAt x1 = fun j => impl_within (x1.2.2.2.2.1.getD j (0 : Int)) 0 100000 && AnswerOk (x1.2.2.2.2.2.1.getD j zd9) from rfl, allN_and]
   refine congr (congrArg _ (allN_all (p := fun n => impl_within n 0 100000))) ?_
   rw [show x1.2.2.2.2.1.length = x1.2.2.2.2.2.1.length by omega]
   exact allN_all]
 cases impl_allWithin x1.2.2.2.2.1 0 100000 <;> cases x1.2.2.2.2.2.1.all AnswerOk <;> rfl
end spec_KeepOk
def hardOk (ko : Setup → Keep → Bool) (p : Setup) (h : Hard) : Bool := impl_within h.1 0 300 && (impl_within h.2.1 (-1) 4 && (LogOk h.2.2.1 && (decide ((LastOf h.2.2.1).2 ≤ h.1) && ko p h.2.2.2.1)))
def impl_HardOk (p : Setup) (h : Hard) : Bool := hardOk impl_KeepOk p h
def spec_HardOk (p : Setup) (h : Hard) : Bool := hardOk spec_KeepOk p h
namespace impl_HardOk
def pre (_ : Setup) (h : Hard) : Bool := keepS h.2.2.2.1
abbrev wf (x0 : Setup) (x1 : zt27) : Prop := wfA [(.val zk25 .f), (.val zk29 .f)] (x0, (x1, ()))
noncomputable def raw (x0 : Setup) (x1 : zt27) : Option zt17 :=
 letB (impl_within x1.1 (0 : Int) (300 : Int)) fun v1 =>
 if v1 = true then
 letB (impl_within x1.2.1 (-1 : Int) (4 : Int)) fun v2 =>
 if v2 = true then
 letB (LogOk x1.2.2.1) fun v3 =>
 if v3 = true then
 letB (LastOf x1.2.2.1) fun v4 =>
 if (decide (v4.2 ≤ x1.1)) = true then
 if (impl_KeepOk.pre x0 x1.2.2.2.1) = true then
 letB (impl_KeepOk x0 x1.2.2.2.1) fun v5 =>
 some ((), (v5, ()))
 else
 none
 else
 some ((), (false, ()))
 else
 some ((), (false, ()))
 else
 some ((), (false, ()))
 else
 some ((), (false, ()))
theorem eq (x0 : Setup) (x1 : Hard) (_ : wf x0 x1) (hp : pre x0 x1 = true) : raw x0 x1 = some ((), (impl_HardOk x0 x1, ())) := by
 unfold raw impl_HardOk hardOk
 rw [show impl_KeepOk.pre x0 x1.2.2.2.1 = true from hp]
 simp only [letB]
 cases impl_within x1.1 0 300 <;> cases impl_within x1.2.1 (-1) 4 <;> cases LogOk x1.2.2.1 <;> cases decide ((LastOf x1.2.2.1).2 ≤ x1.1) <;> rfl
end impl_HardOk
namespace spec_HardOk
def pre (_ : Setup) (h : Hard) : Bool := keepS h.2.2.2.1
abbrev wf (x0 : Setup) (x1 : zt27) : Prop := wfA [(.val zk25 .f), (.val zk29 .f)] (x0, (x1, ()))
noncomputable def raw (x0 : Setup) (x1 : zt27) : Option zt17 :=
 letB (impl_within x1.1 (0 : Int) (300 : Int)) fun v1 =>
 if v1 = true then
 letB (impl_within x1.2.1 (-1 : Int) (4 : Int)) fun v2 =>
 if v2 = true then
 letB (LogOk x1.2.2.1) fun v3 =>
 if v3 = true then
 letB (LastOf x1.2.2.1) fun v4 =>
 if (decide (v4.2 ≤ x1.1)) = true then
 if (spec_KeepOk.pre x0 x1.2.2.2.1) = true then
 letB (spec_KeepOk x0 x1.2.2.2.1) fun v5 =>
 some ((), (v5, ()))
 else
 none
 else
 some ((), (false, ()))
 else
 some ((), (false, ()))
 else
 some ((), (false, ()))
 else
 some ((), (false, ()))
theorem eq (x0 : Setup) (x1 : Hard) (_ : wf x0 x1) (hp : pre x0 x1 = true) : raw x0 x1 = some ((), (spec_HardOk x0 x1, ())) := by
 unfold raw spec_HardOk hardOk
 rw [show spec_KeepOk.pre x0 x1.2.2.2.1 = true from hp]
 simp only [letB]
 cases impl_within x1.1 0 300 <;> cases impl_within x1.2.1 (-1) 4 <;> cases LogOk x1.2.2.1 <;> cases decide ((LastOf x1.2.2.1).2 ≤ x1.1) <;> rfl
end spec_HardOk
def DiskOk (d : Disk) : Bool := decide ((d.1.length : Int) ≤ 80000) && impl_within d.2.1 0 (d.1.length : Int)
abbrev impl_DiskOk := DiskOk
abbrev spec_DiskOk := DiskOk
namespace impl_DiskOk
def pre (_ : Disk) : Bool := true
abbrev wf (x0 : Disk) : Prop := wfA [(.val zk33 .f)] (x0, ())
noncomputable def raw (x0 : Disk) : Option zt17 :=
 if (decide (((List.length x0.1 : Nat) : Int) ≤ (80000 : Int))) = true then
 letB (impl_within x0.2.1 (0 : Int) ((List.length x0.1 : Nat) : Int)) fun v1 =>
 some ((), (v1, ()))
 else
 some ((), (false, ()))
theorem eq (x0 : Disk) (_ : wf x0) (_ : pre x0 = true) : raw x0 = some ((), (impl_DiskOk x0, ())) := by
 unfold raw impl_DiskOk DiskOk
 cases decide ((x0.1.length : Int) ≤ 80000) <;> rfl
end impl_DiskOk
namespace spec_DiskOk
def pre (_ : Disk) : Bool := true
abbrev wf (x0 : Disk) : Prop := wfA [(.val zk33 .f)] (x0, ())
noncomputable def raw (x0 : Disk) : Option zt17 :=
 if (decide (((List.length x0.1 : Nat) : Int) ≤ (80000 : Int))) = true then
 letB (impl_within x0.2.1 (0 : Int) ((List.length x0.1 : Nat) : Int)) fun v1 =>
 some ((), (v1, ()))
 else
 some ((), (false, ()))
theorem eq (x0 : Disk) (_ : wf x0) (_ : pre x0 = true) : raw x0 = some ((), (spec_DiskOk x0, ())) := by
 unfold raw spec_DiskOk DiskOk
 cases decide ((x0.1.length : Int) ≤ 80000) <;> rfl
end spec_DiskOk
def impl_last (l : Log) : Int := IntKind.wrap .i64 (l.1 + (l.2.2.1.length : Int))
namespace impl_last
def pre (_ : Log) : Bool := true
abbrev wf (x0 : Log) : Prop := wfA [(.val zk21 .f)] (x0, ())
noncomputable def raw (x0 : Log) : Option zt28 :=
 some ((), ((IntKind.wrap .i64 (x0.1 + ((List.length x0.2.2.1 : Nat) : Int))), ()))
theorem eq (x0 : Log) (_ : wf x0) (_ : pre x0 = true) : raw x0 = some ((), (impl_last x0, ())) := rfl
end impl_last
def rpPre (n i : Int) (out : List Int) : Bool := decide (n ≤ 1000) && (decide (0 ≤ i) && (decide (i ≤ n) && decide ((out.length : Int) = i)))
theorem rp_facts {n i : Int} {out : List Int} (h : rpPre n i out = true) : n ≤ 1000 ∧ 0 ≤ i ∧ i ≤ n ∧ (out.length : Int) = i := by
 simpa only [rpPre, Bool.and_eq_true, decide_eq_true_eq] using h
theorem rp_step {n i x : Int} {out : List Int} (h : rpPre n i out = true) (hlt : i < n) :
 out.length + List.length (x :: ([] : List Int)) ≤ lim ∧ IntKind.wrap .i64 (i + 1) = i + 1 ∧ rpPre n (i + 1) (out ++ [x]) = true ∧ (out ++ [x]) ++ List.replicate (n - (i + 1)).toNat x = out ++ List.replicate (n - i).toNat x ∧ (n - (i + 1)).toNat < (n - i).toNat := by
 obtain ⟨h1, h2, h3, h4⟩ := rp_facts h
 refine ⟨by simp only [List.length_cons, List.length_nil, lim]; omega, w64 (by omega) (by omega), ?_, ?_, by omega⟩
 · simp only [rpPre, Bool.and_eq_true, decide_eq_true_eq, List.length_append, List.length_cons, List.length_nil]; omega
 · rw [show (n - i).toNat = (n - (i + 1)).toNat + 1 by omega, List.replicate_succ, List.append_assoc]; rfl
theorem rp_end {n i x : Int} {out : List Int} (h : rpPre n i out = true) (hlt : ¬ i < n) : out = out ++ List.replicate (n - i).toNat x := by
 obtain ⟨h1, h2, h3, h4⟩ := rp_facts h
 rw [show (n - i).toNat = 0 by omega]; simp
def impl_ones (n : Int) : List Int := List.replicate n.toNat 1
namespace impl_ones
abbrev S3 : Type := (Int × (Int × zt32))
abbrev O3 : Type := zt32
def pre (n : Int) : Bool := decide (0 ≤ n) && decide (n ≤ 1000)
def pre3 : S3 → Bool := fun (x1, x2, x3, _) => rpPre x1 x2 x3
def fn3 : S3 → O3 := fun (x1, x2, x3, _) => (x3 ++ List.replicate (x1 - x2).toNat 1, ())
def mu3 : S3 → Nat := fun (x1, x2, _, _) => (x1 - x2).toNat
noncomputable def raw3 (x1 : Int) (x2 : Int) (x3 : (List Int)) : Option ((Int × (Int × zt32)) ⊕ zt32) :=
 if (decide (x2 < x1)) = true then
 if (decide (List.length x3 + List.length ((1 : Int) :: ([] : List Int)) ≤ lim)) = true then
 some (.inl (x1, ((IntKind.wrap .i64 (x2 + (1 : Int))), ((List.append x3 ((1 : Int) :: ([] : List Int))), ()))))
 else
 none
 else
 some (.inr (x3, ()))
abbrev wf (x0 : Int) : Prop := wfA [(.val (.int .i64) .f)] (x0, ())
noncomputable def raw (x0 : Int) : Option (Unit × zt32) :=
 if (impl_ones.pre3 (x0, ((0 : Int), (([] : List Int), ())))) = true then
 letB (impl_ones.fn3 (x0, ((0 : Int), (([] : List Int), ())))) fun v1 =>
 some ((), v1)
 else
 none
theorem ok3 (x1 x2 : Int) (x3 : List Int) (hp : pre3 (x1, (x2, (x3, ()))) = true) : Rounds pre3 mu3 fn3 (x1, (x2, (x3, ()))) (raw3 x1 x2 x3) := by
 have hp : rpPre x1 x2 x3 = true := hp
 unfold raw3
 by_cases hlt : x2 < x1
 · obtain ⟨h1, h2, h3, h4, h5⟩ := rp_step (x := 1) hp hlt
   rw [h2]
   exact R_if (decide_eq_true hlt) (R_if (decide_eq_true h1) ⟨h3, h5, congrArg (fun z : List Int => ((z, ()) : O3)) h4⟩)
 · exact R_else (by rw [decide_eq_true_eq]; exact hlt) (congrArg (fun z : List Int => ((z, ()) : O3)) (rp_end hp hlt))
theorem eq (x0 : Int) (_ : wf x0) (hp : pre x0 = true) : raw x0 = some ((), (impl_ones x0, ())) := by
 simp only [pre, Bool.and_eq_true, decide_eq_true_eq] at hp
 unfold raw
 refine E_if (show pre3 (x0, ((0 : Int), (([] : List Int), ()))) = true by simp only [pre3, rpPre, Bool.and_eq_true, decide_eq_true_eq, List.length_nil]; omega) ?_
 show some ((), (([] : List Int) ++ List.replicate (x0 - 0).toNat 1, ())) = _
 rw [Int.sub_zero]; rfl
end impl_ones
def spec_l12Ones (n x : Int) : List Int := List.replicate n.toNat x
namespace spec_l12Ones
abbrev S3 : Type := (Int × (Int × (Int × zt32)))
abbrev O3 : Type := zt32
def pre (n _ : Int) : Bool := decide (0 ≤ n) && decide (n ≤ 1000)
def pre3 : S3 → Bool := fun (x1, _, x3, x4, _) => rpPre x1 x3 x4
def fn3 : S3 → O3 := fun (x1, x2, x3, x4, _) => (x4 ++ List.replicate (x1 - x3).toNat x2, ())
def mu3 : S3 → Nat := fun (x1, _, x3, _, _) => (x1 - x3).toNat
noncomputable def raw3 (x1 : Int) (x2 : Int) (x3 : Int) (x4 : (List Int)) : Option ((Int × (Int × (Int × zt32))) ⊕ zt32) :=
 if (decide (x3 < x1)) = true then
 if (decide (List.length x4 + List.length (x2 :: ([] : List Int)) ≤ lim)) = true then
 some (.inl (x1, (x2, ((IntKind.wrap .i64 (x3 + (1 : Int))), ((List.append x4 (x2 :: ([] : List Int))), ())))))
 else
 none
 else
 some (.inr (x4, ()))
abbrev wf (x0 : Int) (x1 : Int) : Prop := wfA [(.val (.int .i64) .f), (.val (.int .i64) .f)] (x0, (x1, ()))
noncomputable def raw (x0 : Int) (x1 : Int) : Option (Unit × zt32) :=
 if (spec_l12Ones.pre3 (x0, (x1, ((0 : Int), (([] : List Int), ()))))) = true then
 letB (spec_l12Ones.fn3 (x0, (x1, ((0 : Int), (([] : List Int), ()))))) fun v1 =>
 some ((), v1)
 else
 none
theorem ok3 (x1 x2 x3 : Int) (x4 : List Int) (hp : pre3 (x1, (x2, (x3, (x4, ())))) = true) : Rounds pre3 mu3 fn3 (x1, (x2, (x3, (x4, ())))) (raw3 x1 x2 x3 x4) := by
 have hp : rpPre x1 x3 x4 = true := hp
 unfold raw3
 by_cases hlt : x3 < x1
 · obtain ⟨h1, h2, h3, h4, h5⟩ := rp_step (x := x2) hp hlt
   rw [h2]
   exact R_if (decide_eq_true hlt) (R_if (decide_eq_true h1) ⟨h3, h5, congrArg (fun z : List Int => ((z, ()) : O3)) h4⟩)
 · exact R_else (by rw [decide_eq_true_eq]; exact hlt) (congrArg (fun z : List Int => ((z, ()) : O3)) (rp_end hp hlt))
theorem eq (x0 x1 : Int) (_ : wf x0 x1) (hp : pre x0 x1 = true) : raw x0 x1 = some ((), (spec_l12Ones x0 x1, ())) := by
 simp only [pre, Bool.and_eq_true, decide_eq_true_eq] at hp
 unfold raw
 refine E_if (show pre3 (x0, (x1, ((0 : Int), (([] : List Int), ())))) = true by simp only [pre3, rpPre, Bool.and_eq_true, decide_eq_true_eq, List.length_nil]; omega) ?_
 show some ((), (([] : List Int) ++ List.replicate (x0 - 0).toNat x1, ())) = _
 rw [Int.sub_zero]; rfl
end spec_l12Ones
def slices_IndexFunc_Rpc (xs : List Rpc) (p : (Rpc → Bool) × (Rpc → Bool)) : Int := idxF p.2 xs 0
namespace slices_IndexFunc_Rpc
def pre (xs : List Rpc) (p : (Rpc → Bool) × (Rpc → Bool)) : Bool := xs.all p.1
def pre2 := ixPre (α := Rpc)
def fn2 := ixFn (α := Rpc)
def mu2 := ixMu (α := Rpc)
noncomputable def raw2 (x1 : (List zt4)) (x2 : (zt4 → Bool)) (x3 : (zt4 → Bool)) (x4 : Int) (x5 : Int) : Option (((List zt4) × ((zt4 → Bool) × ((zt4 → Bool) × Mark))) ⊕ ((Int × Unit) ⊕ Unit)) :=
 if (decide (x5 < x4)) = true then
 if (decide ((0 : Int) ≤ x5)) = true then
 if (decide (x5 < ((List.length x1 : Nat) : Int))) = true then
 if (x2 (List.getD x1 (Int.toNat x5) zd5)) = true then
 if (x3 (List.getD x1 (Int.toNat x5) zd5)) = true then
 some (.inr (.inl (x5, ())))
 else
 some (.inl (x1, (x2, (x3, (x4, ((IntKind.wrap .i64 (x5 + (1 : Int))), ()))))))
 else
 none
 else
 none
 else
 none
 else
 some (.inr (.inr ()))
abbrev wf (x0 : (List zt4)) (x1 : ((zt4 → Bool) × (zt4 → Bool))) : Prop := wfA [(.val (.sl 0 zk8) .f), (.fn zk8 .bool)] (x0, (x1, ()))
noncomputable def raw (x0 : (List zt4)) (x1 : ((zt4 → Bool) × (zt4 → Bool))) : Option zt28 :=
 if (slices_IndexFunc_Rpc.pre2 (x0, (x1.1, (x1.2, (((List.length x0 : Nat) : Int), ((0 : Int), ())))))) = true then
  letB (slices_IndexFunc_Rpc.fn2 (x0, (x1.1, (x1.2, (((List.length x0 : Nat) : Int), ((0 : Int), ())))))) fun v1 =>
  match v1 with
  | .inl y =>
   some ((), y)
  | .inr y =>
   some ((), ((-1 : Int), ()))
 else
  none
theorem ok2 (x1 : List Rpc) (x2 x3 : Rpc → Bool) (x4 x5 : Int) (hp : pre2 (x1, (x2, (x3, (x4, (x5, ()))))) = true) : Rounds pre2 mu2 fn2 (x1, (x2, (x3, (x4, (x5, ()))))) (raw2 x1 x2 x3 x4 x5) := by
 unfold raw2
 by_cases hlt : x5 < x4
 · obtain ⟨h1, h2, h3, h4, h5⟩ := ix_next hp hlt zd5
   simp only [hlt, h1, h2, h3, decide_true, if_true]
   split
   · rename_i h; exact h4 h
   · rename_i h; exact h5 h
 · simp only [hlt, decide_false, Bool.false_eq_true, if_false]
   exact ix_end hp hlt
theorem eq (x0 : List Rpc) (x1 : (Rpc → Bool) × (Rpc → Bool)) (hw : wf x0 x1) (hp : pre x0 x1 = true) : raw x0 x1 = some ((), (slices_IndexFunc_Rpc x0 x1, ())) := by
 have h1 : x0.length ≤ maxLen := hw.1.1
 unfold raw
 rw [if_pos (show pre2 _ = true by simp only [pre2, ixPre, Bool.and_eq_true, decide_eq_true_eq]; exact ⟨h1, trivial, by omega, by simp, hp⟩)]
 exact ix_fin x0 x1
end slices_IndexFunc_Rpc
def slices_ContainsFunc_Rpc (xs : List Rpc) (p : (Rpc → Bool) × (Rpc → Bool)) : Bool := xs.any p.2
namespace slices_ContainsFunc_Rpc
def pre (xs : List Rpc) (p : (Rpc → Bool) × (Rpc → Bool)) : Bool := xs.all p.1
abbrev wf (x0 : (List zt4)) (x1 : ((zt4 → Bool) × (zt4 → Bool))) : Prop := wfA [(.val (.sl 0 zk8) .f), (.fn zk8 .bool)] (x0, (x1, ()))
noncomputable def raw (x0 : (List zt4)) (x1 : ((zt4 → Bool) × (zt4 → Bool))) : Option zt17 :=
 if (slices_IndexFunc_Rpc.pre x0 x1) = true then
 letB (slices_IndexFunc_Rpc x0 x1) fun v1 =>
 some ((), ((decide ((0 : Int) ≤ v1)), ()))
 else
 none
theorem eq (x0 : List Rpc) (x1 : (Rpc → Bool) × (Rpc → Bool)) (_ : wf x0 x1) (hp : pre x0 x1 = true) : raw x0 x1 = some ((), (slices_ContainsFunc_Rpc x0 x1, ())) := by
 unfold raw
 exact E_if (show slices_IndexFunc_Rpc.pre _ _ = true from hp) (congrArg (fun b => some ((), (b, ()))) (ix_any x1.2 x0))
end slices_ContainsFunc_Rpc
def rpcAt (n : Peer) (size : Int) (r : Rpc) : Bool := RpcOk r size && decide (r.2.1 = n.1)
def impl_PeerOk_1 (r : Rpc) (size : Int) (n : Peer) : Bool := !rpcAt n size r
namespace impl_PeerOk_1
def pre (_ : Rpc) (_ : Int) (_ : Peer) : Bool := true
abbrev wf (x0 : zt4) (x1 : Int) (x2 : zt2) : Prop := wfA [(.val zk8 .f), (.peek (.int .i64)), (.peek zk12)] (x0, (x1, (x2, ())))
noncomputable def raw (x0 : zt4) (x1 : Int) (x2 : zt2) : Option zt17 :=
 letB (RpcOk x0 x1) fun v1 =>
 if (!v1) = true then
 some ((), (true, ()))
 else
 some ((), ((!(decide (x0.2.1 = x2.1))), ()))
theorem eq (x0 : Rpc) (x1 : Int) (x2 : Peer) (_ : wf x0 x1 x2) (_ : pre x0 x1 x2 = true) : raw x0 x1 x2 = some ((), (impl_PeerOk_1 x0 x1 x2, ())) := by
 unfold raw impl_PeerOk_1 rpcAt
 simp only [letB]
 cases RpcOk x0 x1 <;> rfl
end impl_PeerOk_1
def peerOk (ko : Setup → Keep → Bool) (p : Setup) (n : Peer) (size : Int) : Bool :=
 impl_within size 1 5 && (impl_within n.1 0 (IntKind.wrap .i64 (size - 1)) && (hardOk ko p n.2.1 && (!decide (size ≤ n.2.1.2.1) && (impl_within n.2.2.1 0 2 && (decide ((n.2.2.2.1.length : Int) = size) && (decide ((n.2.2.2.2.1.length : Int) = size) &&
  (impl_allWithin n.2.2.2.2.1 1 (IntKind.wrap .i64 ((LastOf n.2.1.2.2.1).1 + 1)) && (decide ((n.2.2.2.2.2.1.length : Int) = size) && (impl_allWithin n.2.2.2.2.2.1 0 (LastOf n.2.1.2.2.1).1 && (impl_within n.2.2.2.2.2.2.1 n.2.1.2.2.1.1 (LastOf n.2.1.2.2.1).1 &&
  (ko p n.2.2.2.2.2.2.2.1 && (DiskOk n.2.2.2.2.2.2.2.2.1 && (decide ((n.2.2.2.2.2.2.2.2.2.1.length : Int) ≤ 40) && n.2.2.2.2.2.2.2.2.2.1.all (rpcAt n size))))))))))))))
def impl_PeerOk (p : Setup) (n : Peer) (size : Int) : Bool := peerOk impl_KeepOk p n size
def spec_PeerOk (p : Setup) (n : Peer) (size : Int) : Bool := peerOk spec_KeepOk p n size
theorem last_eq {l : Log} (h : LogOk l = true) : impl_last l = (LastOf l).1 := by
 unfold LogOk at h
 simp only [Bool.and_eq_true] at h
 have h1 := within_hi h.1
 unfold impl_last LastOf
 split
 · rename_i hl
   rw [hl]; exact w64 (n := l.1 + ((0 : Nat) : Int)) (by omega) (by omega) |>.trans (by simp)
 · rfl
theorem hardOk_log {ko : Setup → Keep → Bool} {p : Setup} {h : Hard} (hh : hardOk ko p h = true) : LogOk h.2.2.1 = true := by
 simp only [hardOk, Bool.and_eq_true] at hh
 exact hh.2.2.1
namespace impl_PeerOk
def pre (_ : Setup) (n : Peer) (_ : Int) : Bool := keepS n.2.1.2.2.2.1 && keepS n.2.2.2.2.2.2.2.1
abbrev wf (x0 : Setup) (x1 : zt2) (x2 : Int) : Prop := wfA [(.val zk25 .f), (.val zk12 .f), (.val (.int .i64) .f)] (x0, (x1, (x2, ())))
noncomputable def raw (x0 : Setup) (x1 : zt2) (x2 : Int) : Option zt17 :=
 letB (impl_within x2 (1 : Int) (5 : Int)) fun v1 =>
 if (!v1) = true then
 some ((), (false, ()))
 else
 letB (impl_within x1.1 (0 : Int) (IntKind.wrap .i64 (x2 - (1 : Int)))) fun v2 =>
 if (!v2) = true then
 some ((), (false, ()))
 else
 if (impl_HardOk.pre x0 x1.2.1) = true then
 letB (impl_HardOk x0 x1.2.1) fun v3 =>
 if (!v3) = true then
 some ((), (false, ()))
 else
 if (decide (x2 ≤ x1.2.1.2.1)) = true then
 some ((), (false, ()))
 else
 letB (impl_within x1.2.2.1 (0 : Int) (2 : Int)) fun v4 =>
 if (!v4) = true then
 some ((), (false, ()))
 else
 if (impl_last.pre x1.2.1.2.2.1) = true then
 if (!(decide (((List.length x1.2.2.2.1 : Nat) : Int) = x2))) = true then
 some ((), (false, ()))
 else
 if (!(decide (((List.length x1.2.2.2.2.1 : Nat) : Int) = x2))) = true then
 some ((), (false, ()))
 else
 letB (impl_last x1.2.1.2.2.1) fun v5 =>
 if (impl_allWithin.pre x1.2.2.2.2.1 (1 : Int) (IntKind.wrap .i64 (v5 + (1 : Int)))) = true then
 letB (impl_allWithin x1.2.2.2.2.1 (1 : Int) (IntKind.wrap .i64 (v5 + (1 : Int)))) fun v6 =>
 if (!v6) = true then
 some ((), (false, ()))
 else
 if (!(decide (((List.length x1.2.2.2.2.2.1 : Nat) : Int) = x2))) = true then
 some ((), (false, ()))
 else
 if (impl_allWithin.pre x1.2.2.2.2.2.1 (0 : Int) v5) = true then
 letB (impl_allWithin x1.2.2.2.2.2.1 (0 : Int) v5) fun v7 =>
 if (!v7) = true then
 some ((), (false, ()))
 else
 letB (impl_within x1.2.2.2.2.2.2.1 x1.2.1.2.2.1.1 v5) fun v8 =>
 if (!v8) = true then
 some ((), (false, ()))
 else
 if (impl_KeepOk.pre x0 x1.2.2.2.2.2.2.2.1) = true then
 letB (impl_KeepOk x0 x1.2.2.2.2.2.2.2.1) fun v9 =>
 if (!v9) = true then
 some ((), (false, ()))
 else
 if (impl_DiskOk.pre x1.2.2.2.2.2.2.2.2.1) = true then
 letB (DiskOk x1.2.2.2.2.2.2.2.2.1) fun v10 =>
 if (!v10) = true then
 some ((), (false, ()))
 else
 if (decide ((40 : Int) < ((List.length x1.2.2.2.2.2.2.2.2.2.1 : Nat) : Int))) = true then
 some ((), (false, ()))
 else
 if (slices_ContainsFunc_Rpc.pre x1.2.2.2.2.2.2.2.2.2.1 ((fun x => (impl_PeerOk_1.pre x x2 x1)), (fun x => (impl_PeerOk_1 x x2 x1)))) = true then
 letB (slices_ContainsFunc_Rpc x1.2.2.2.2.2.2.2.2.2.1 ((fun x => (impl_PeerOk_1.pre x x2 x1)), (fun x => (impl_PeerOk_1 x x2 x1)))) fun v11 =>
 some ((), ((!v11), ()))
 else
 none
 else
 none
 else
 none
 else
 none
 else
 none
 else
 none
 else
 none
theorem eq (x0 : Setup) (x1 : Peer) (x2 : Int) (_ : wf x0 x1 x2) (hp : pre x0 x1 x2 = true) : raw x0 x1 x2 = some ((), (impl_PeerOk x0 x1 x2, ())) := by
 simp only [pre, Bool.and_eq_true] at hp
 unfold raw impl_PeerOk peerOk
 simp only [letB]
 cases impl_within x2 1 5
 · rfl
 cases impl_within x1.1 0 (IntKind.wrap .i64 (x2 - 1))
 · rfl
 rw [if_neg (by decide), if_neg (by decide), if_pos (show impl_HardOk.pre x0 x1.2.1 = true from hp.1), show impl_HardOk x0 x1.2.1 = hardOk impl_KeepOk x0 x1.2.1 from rfl]
 cases hh : hardOk impl_KeepOk x0 x1.2.1
 · rfl
 rw [if_neg (by decide), last_eq (hardOk_log hh), if_pos (show impl_last.pre x1.2.1.2.2.1 = true from rfl)]
 cases decide (x2 ≤ x1.2.1.2.1)
 case true => rfl
 cases impl_within x1.2.2.1 0 2
 · rfl
 cases decide ((x1.2.2.2.1.length : Int) = x2)
 · rfl
 cases decide ((x1.2.2.2.2.1.length : Int) = x2)
 · rfl
 simp only [show ∀ (l : List Int) (a b : Int), impl_allWithin.pre l a b = true from fun _ a _ => decide_eq_true (Int.le_refl a), Bool.not_true, Bool.not_false, Bool.false_eq_true, if_true, if_false]
 cases impl_allWithin x1.2.2.2.2.1 1 (IntKind.wrap .i64 ((LastOf x1.2.1.2.2.1).1 + 1))
 · rfl
 cases decide ((x1.2.2.2.2.2.1.length : Int) = x2)
 · rfl
 cases impl_allWithin x1.2.2.2.2.2.1 0 (LastOf x1.2.1.2.2.1).1
 · rfl
 cases impl_within x1.2.2.2.2.2.2.1 x1.2.1.2.2.1.1 (LastOf x1.2.1.2.2.1).1
 · rfl
 rw [show impl_KeepOk.pre x0 x1.2.2.2.2.2.2.2.1 = true from hp.2]
 cases impl_KeepOk x0 x1.2.2.2.2.2.2.2.1
 · rfl
 cases DiskOk x1.2.2.2.2.2.2.2.2.1
 · rfl
 by_cases h40 : 40 < (x1.2.2.2.2.2.2.2.2.2.1.length : Int)
 · rw [decide_eq_true h40, decide_eq_false (p := (x1.2.2.2.2.2.2.2.2.2.1.length : Int) ≤ 40) (by omega)]; rfl
 rw [decide_eq_false h40, decide_eq_true (p := (x1.2.2.2.2.2.2.2.2.2.1.length : Int) ≤ 40) (by omega),
  show slices_ContainsFunc_Rpc.pre x1.2.2.2.2.2.2.2.2.2.1 ((fun x => impl_PeerOk_1.pre x x2 x1), fun x => impl_PeerOk_1 x x2 x1) = true by simp [slices_ContainsFunc_Rpc.pre, impl_PeerOk_1.pre],
  show (!slices_ContainsFunc_Rpc x1.2.2.2.2.2.2.2.2.2.1 ((fun x => impl_PeerOk_1.pre x x2 x1), fun x => impl_PeerOk_1 x x2 x1)) = x1.2.2.2.2.2.2.2.2.2.1.all (rpcAt x1 x2) from contains_not _ _]
 rfl
end impl_PeerOk
namespace spec_RpcOk
def pre (_ : Rpc) (n : Int) : Bool := decide (n ≤ n)
abbrev wf (x0 : zt4) (x1 : Int) : Prop := wfA [(.val zk8 .f), (.val (.int .i64) .f)] (x0, (x1, ()))
noncomputable def raw (x0 : zt4) (x1 : Int) : Option zt17 :=
 if (!(impl_within x0.1 (1 : Int) (5 : Int))) = true then
 some ((), (false, ()))
 else
 if (!(impl_within x1 (1 : Int) (5 : Int))) = true then
 some ((), (false, ()))
 else
 if (!(impl_within x0.2.1 (0 : Int) (IntKind.wrap .i64 (x1 - (1 : Int))))) = true then
 some ((), (false, ()))
 else
 if (!(impl_within x0.2.2.1 (0 : Int) (IntKind.wrap .i64 (x1 - (1 : Int))))) = true then
 some ((), (false, ()))
 else
 if (decide (x0.2.1 = x0.2.2.1)) = true then
 some ((), (false, ()))
 else
 if (impl_within x0.2.2.2.1 (0 : Int) (300 : Int)) = true then
 if (impl_within x0.2.2.2.2.1 (0 : Int) (300 : Int)) = true then
 if (impl_within x0.2.2.2.2.2.1 (0 : Int) (300 : Int)) = true then
 if (impl_within x0.2.2.2.2.2.2.1 (0 : Int) (300 : Int)) = true then
 if (spec_l9List x0.2.2.2.2.2.2.2.1 x0.2.2.2.1) = true then
 some ((), ((decide (((List.length x0.2.2.2.2.2.2.2.2.2.1 : Nat) : Int) ≤ (30000 : Int))), ()))
 else
 some ((), (false, ()))
 else
 some ((), (false, ()))
 else
 some ((), (false, ()))
 else
 some ((), (false, ()))
 else
 some ((), (false, ()))
theorem eq (x0 : Rpc) (x1 : Int) (_ : wf x0 x1) (_ : pre x0 x1 = true) : raw x0 x1 = some ((), (spec_RpcOk x0 x1, ())) := by
 unfold raw spec_RpcOk RpcOk
 cases impl_within x0.1 1 5
 · simp
 cases hs : impl_within x1 1 5
 · simp
 have h := within_hi hs
 rw [w64 (n := x1 - 1) (by omega) (by omega)]
 cases impl_within x0.2.1 0 (x1 - 1)
 · simp
 cases impl_within x0.2.2.1 0 (x1 - 1)
 · simp
 by_cases he : x0.2.1 = x0.2.2.1
 · simp [he]
 simp only [he, decide_false, Bool.not_true, Bool.not_false, Bool.false_eq_true, if_false, Bool.true_and]
 cases impl_within x0.2.2.2.1 0 300 <;> simp only [Bool.false_eq_true, if_false, if_true, Bool.false_and, Bool.true_and]
 cases impl_within x0.2.2.2.2.1 0 300 <;> simp only [Bool.false_eq_true, if_false, if_true, Bool.false_and, Bool.true_and]
 cases impl_within x0.2.2.2.2.2.1 0 300 <;> simp only [Bool.false_eq_true, if_false, if_true, Bool.false_and, Bool.true_and]
 cases impl_within x0.2.2.2.2.2.2.1 0 300 <;> simp only [Bool.false_eq_true, if_false, if_true, Bool.false_and, Bool.true_and]
 cases spec_l9List x0.2.2.2.2.2.2.2.1 x0.2.2.2.1 <;> simp only [Bool.false_eq_true, if_false, if_true, Bool.false_and, Bool.true_and]
end spec_RpcOk
namespace spec_PeerOk
abbrev S5 : Type := (Int × (Int × zt35))
abbrev O5 : Type := ((Bool × Unit) ⊕ (Int × zt35))
abbrev S10 : Type := (Int × (Int × zt35))
abbrev O10 : Type := ((Bool × Unit) ⊕ zt35)
def pre (_ : Setup) (n : Peer) (_ : Int) : Bool := keepS n.2.1.2.2.2.1 && (keepS n.2.2.2.2.2.2.2.1 && small n.2.2.2.2.2.2.2.2.2.1)
def nmAt (n : Peer) (e : Int) (j : Nat) : Bool := impl_within (n.2.2.2.2.1.getD j (0 : Int)) 1 (IntKind.wrap .i64 (e + 1)) && impl_within (n.2.2.2.2.2.1.getD j (0 : Int)) 0 e
def pre5 : S5 → Bool := fun (x1, _, x3, _, x5, _) => decide ((x5.2.2.2.2.1.length : Int) = x1) && (decide ((x5.2.2.2.2.2.1.length : Int) = x1) && alPre x5.2.2.2.2.1.length x3)
def fn5 : S5 → O5 := fun (x1, x2, x3, x4, x5, _) => alFn (nmAt x5 x2) x5.2.2.2.2.1.length x3 (x1, (x2, (x4, (x5, ()))))
def mu5 : S5 → Nat := fun (_, _, x3, _, x5, _) => x5.2.2.2.2.1.length - x3.toNat
def pre10 : S10 → Bool := fun (_, _, x3, _, x5, _) => alPre x5.2.2.2.2.2.2.2.2.2.1.length x3
def fn10 : S10 → O10 := fun (x1, x2, x3, x4, x5, _) => alFn (fun j => rpcAt x5 x1 (x5.2.2.2.2.2.2.2.2.2.1.getD j zd5)) x5.2.2.2.2.2.2.2.2.2.1.length x3 (x2, (x4, (x5, ())))
def mu10 : S10 → Nat := fun (_, _, x3, _, x5, _) => x5.2.2.2.2.2.2.2.2.2.1.length - x3.toNat
noncomputable def raw5 (x1 : Int) (x2 : Int) (x3 : Int) (x4 : Setup) (x5 : zt2) : Option ((Int × (Int × zt35)) ⊕ ((Bool × Unit) ⊕ (Int × zt35))) :=
 if (decide (x3 < x1)) = true then
 if (decide ((0 : Int) ≤ x3)) = true then
 if (decide (x3 < ((List.length x5.2.2.2.2.1 : Nat) : Int))) = true then
 letB (impl_within (List.getD x5.2.2.2.2.1 (Int.toNat x3) (0 : Int)) (1 : Int) (IntKind.wrap .i64 (x2 + (1 : Int)))) fun v1 =>
 if (!v1) = true then
 some (.inr (.inl (false, ())))
 else
 if (decide ((0 : Int) ≤ x3)) = true then
 if (decide (x3 < ((List.length x5.2.2.2.2.2.1 : Nat) : Int))) = true then
 letB (impl_within (List.getD x5.2.2.2.2.2.1 (Int.toNat x3) (0 : Int)) (0 : Int) x2) fun v2 =>
 if (!v2) = true then
 some (.inr (.inl (false, ())))
 else
 some (.inl (x1, (x2, ((IntKind.wrap .i64 (x3 + (1 : Int))), (x4, (x5, ()))))))
 else
 none
 else
 none
 else
 none
 else
 none
 else
 some (.inr (.inr (x1, (x2, (x4, (x5, ()))))))
noncomputable def raw10 (x1 : Int) (x2 : Int) (x3 : Int) (x4 : Setup) (x5 : zt2) : Option ((Int × (Int × zt35)) ⊕ ((Bool × Unit) ⊕ zt35)) :=
 if (decide (x3 < ((List.length x5.2.2.2.2.2.2.2.2.2.1 : Nat) : Int))) = true then
 if (decide ((0 : Int) ≤ x3)) = true then
 if (decide (x3 < ((List.length x5.2.2.2.2.2.2.2.2.2.1 : Nat) : Int))) = true then
 if (spec_RpcOk.pre (List.getD x5.2.2.2.2.2.2.2.2.2.1 (Int.toNat x3) zd5) x1) = true then
 letB (RpcOk (List.getD x5.2.2.2.2.2.2.2.2.2.1 (Int.toNat x3) zd5) x1) fun v1 =>
 if (!v1) = true then
 some (.inr (.inl (false, ())))
 else
 if (decide ((0 : Int) ≤ x3)) = true then
 if (decide (x3 < ((List.length x5.2.2.2.2.2.2.2.2.2.1 : Nat) : Int))) = true then
 if (!(decide ((List.getD x5.2.2.2.2.2.2.2.2.2.1 (Int.toNat x3) zd5).2.1 = x5.1))) = true then
 some (.inr (.inl (false, ())))
 else
 some (.inl (x1, (x2, ((IntKind.wrap .i64 (x3 + (1 : Int))), (x4, (x5, ()))))))
 else
 none
 else
 none
 else
 none
 else
 none
 else
 none
 else
 some (.inr (.inr (x2, (x4, (x5, ())))))
abbrev wf (x0 : Setup) (x1 : zt2) (x2 : Int) : Prop := wfA [(.val zk25 .f), (.val zk12 .f), (.val (.int .i64) .f)] (x0, (x1, (x2, ())))
noncomputable def raw (x0 : Setup) (x1 : zt2) (x2 : Int) : Option zt17 :=
 letB (impl_within x2 (1 : Int) (5 : Int)) fun v1 =>
 if (!v1) = true then
  some ((), (false, ()))
 else
  letB (impl_within x1.1 (0 : Int) (IntKind.wrap .i64 (x2 - (1 : Int)))) fun v2 =>
  if (!v2) = true then
   some ((), (false, ()))
  else
   if (spec_HardOk.pre x0 x1.2.1) = true then
    letB (spec_HardOk x0 x1.2.1) fun v3 =>
    if (!v3) = true then
     some ((), (false, ()))
    else
     if (decide (x2 ≤ x1.2.1.2.1)) = true then
      some ((), (false, ()))
     else
      letB (impl_within x1.2.2.1 (0 : Int) (2 : Int)) fun v4 =>
      if (!v4) = true then
       some ((), (false, ()))
      else
       if (!(decide (((List.length x1.2.2.2.1 : Nat) : Int) = x2))) = true then
        some ((), (false, ()))
       else
        if (!(decide (((List.length x1.2.2.2.2.1 : Nat) : Int) = x2))) = true then
         some ((), (false, ()))
        else
         if (!(decide (((List.length x1.2.2.2.2.2.1 : Nat) : Int) = x2))) = true then
          some ((), (false, ()))
         else
          letB (LastOf x1.2.1.2.2.1) fun v5 =>
          if (spec_PeerOk.pre5 (x2, (v5.1, ((0 : Int), (x0, (x1, ())))))) = true then
           letB (spec_PeerOk.fn5 (x2, (v5.1, ((0 : Int), (x0, (x1, ())))))) fun v6 =>
           match v6 with
           | .inl y =>
            some ((), y)
           | .inr y =>
            if (spec_PeerOk.pre10 (y.1, (y.2.1, ((0 : Int), y.2.2)))) = true then
             letB (spec_PeerOk.fn10 (y.1, (y.2.1, ((0 : Int), y.2.2)))) fun v7 =>
             match v7 with
             | .inl y_1 =>
              some ((), y_1)
             | .inr y_1 =>
              letB (impl_within y_1.2.2.1.2.2.2.2.2.2.1 y_1.2.2.1.2.1.2.2.1.1 y_1.1) fun v8 =>
              if v8 = true then
               if (spec_KeepOk.pre y_1.2.1 y_1.2.2.1.2.2.2.2.2.2.2.1) = true then
                letB (spec_KeepOk y_1.2.1 y_1.2.2.1.2.2.2.2.2.2.2.1) fun v9 =>
                if v9 = true then
                 if (spec_DiskOk.pre y_1.2.2.1.2.2.2.2.2.2.2.2.1) = true then
                  letB (DiskOk y_1.2.2.1.2.2.2.2.2.2.2.2.1) fun v10 =>
                  if v10 = true then
                   some ((), ((decide (((List.length y_1.2.2.1.2.2.2.2.2.2.2.2.2.1 : Nat) : Int) ≤ (40 : Int))), ()))
                  else
                   some ((), (false, ()))
                 else
                  none
                else
                 some ((), (false, ()))
               else
                none
              else
               some ((), (false, ()))
            else
             none
          else
           none
   else
    none
theorem ok5 (x1 x2 x3 : Int) (x4 : Setup) (x5 : Peer) (hp : pre5 (x1, (x2, (x3, (x4, (x5, ()))))) = true) : Rounds pre5 mu5 fn5 (x1, (x2, (x3, (x4, (x5, ()))))) (raw5 x1 x2 x3 x4 x5) := by
 simp only [pre5, Bool.and_eq_true, decide_eq_true_eq] at hp
 obtain ⟨hl, hs, ha⟩ := hp
 obtain ⟨h1, h2, h3⟩ := al_facts ha
 unfold raw5
 by_cases hlt : x3 < (x5.2.2.2.2.1.length : Int)
 · obtain ⟨n1, n2, n3, n4⟩ := al_step ha hlt
   have hlt' : x3 < x1 := by omega
   have hlt2 : x3 < (x5.2.2.2.2.2.1.length : Int) := by omega
   have nxt : nmAt x5 x2 x3.toNat = true → Rounds pre5 mu5 fn5 (x1, (x2, (x3, (x4, (x5, ()))))) (some (.inl (x1, (x2, (x3 + 1, (x4, (x5, ()))))))) :=
    fun h => ⟨by simp only [pre5, n2, hs, hl]; simp, n3, al_next ha hlt h⟩
   have stp : nmAt x5 x2 x3.toNat = false → Rounds pre5 mu5 fn5 (x1, (x2, (x3, (x4, (x5, ()))))) (some (.inr (.inl (false, ())))) := fun h => al_stop ha hlt h
   simp only [letB, n1, hlt, hlt', hlt2, h2, decide_true, if_true]
   simp only [nmAt] at nxt stp
   generalize impl_within (x5.2.2.2.2.1.getD x3.toNat (0 : Int)) 1 (IntKind.wrap .i64 (x2 + 1)) = b at *
   generalize impl_within (x5.2.2.2.2.2.1.getD x3.toNat (0 : Int)) 0 x2 = c at *
   cases b <;> cases c
   · exact stp rfl
   · exact stp rfl
   · exact stp rfl
   · exact nxt rfl
 · rw [if_neg (by rw [decide_eq_true_eq]; omega)]
   exact al_end ha hlt
theorem ok10 (x1 x2 x3 : Int) (x4 : Setup) (x5 : Peer) (ha : pre10 (x1, (x2, (x3, (x4, (x5, ()))))) = true) : Rounds pre10 mu10 fn10 (x1, (x2, (x3, (x4, (x5, ()))))) (raw10 x1 x2 x3 x4 x5) := by
 have ha : alPre x5.2.2.2.2.2.2.2.2.2.1.length x3 = true := ha
 obtain ⟨h1, h2, h3⟩ := al_facts ha
 unfold raw10
 by_cases hlt : x3 < (x5.2.2.2.2.2.2.2.2.2.1.length : Int)
 · obtain ⟨n1, n2, n3, n4⟩ := al_step ha hlt
   have nxt : rpcAt x5 x1 (x5.2.2.2.2.2.2.2.2.2.1.getD x3.toNat zd5) = true → Rounds pre10 mu10 fn10 (x1, (x2, (x3, (x4, (x5, ()))))) (some (.inl (x1, (x2, (x3 + 1, (x4, (x5, ()))))))) :=
    fun h => ⟨n2, n3, al_next (ok := fun j => rpcAt x5 x1 (x5.2.2.2.2.2.2.2.2.2.1.getD j zd5)) ha hlt h⟩
   have stp : rpcAt x5 x1 (x5.2.2.2.2.2.2.2.2.2.1.getD x3.toNat zd5) = false → Rounds pre10 mu10 fn10 (x1, (x2, (x3, (x4, (x5, ()))))) (some (.inr (.inl (false, ())))) := fun h => al_stop (ok := fun j => rpcAt x5 x1 (x5.2.2.2.2.2.2.2.2.2.1.getD j zd5)) ha hlt h
   simp only [letB, n1, hlt, h2, decide_true, if_true, show ∀ e, spec_RpcOk.pre e x1 = true from fun e => decide_eq_true (Int.le_refl _)]
   simp only [rpcAt] at nxt stp
   generalize x5.2.2.2.2.2.2.2.2.2.1.getD x3.toNat zd5 = e at *
   generalize RpcOk e x1 = b at *
   generalize decide (e.2.1 = x5.1) = c at *
   cases b <;> cases c
   · exact stp rfl
   · exact stp rfl
   · exact stp rfl
   · exact nxt rfl
 · rw [if_neg (by rw [decide_eq_true_eq]; omega)]
   exact al_end ha hlt
theorem eq (x0 : Setup) (x1 : Peer) (x2 : Int) (_ : wf x0 x1 x2) (hp : pre x0 x1 x2 = true) : raw x0 x1 x2 = some ((), (spec_PeerOk x0 x1 x2, ())) := by
 simp only [pre, Bool.and_eq_true] at hp
 unfold raw spec_PeerOk peerOk
 simp only [letB]
 cases w5 : impl_within x2 1 5
 · rfl
 cases impl_within x1.1 0 (IntKind.wrap .i64 (x2 - 1))
 · rfl
 rw [if_neg (by decide), if_neg (by decide), if_pos (show spec_HardOk.pre x0 x1.2.1 = true from hp.1), show spec_HardOk x0 x1.2.1 = hardOk spec_KeepOk x0 x1.2.1 from rfl]
 cases hh : hardOk spec_KeepOk x0 x1.2.1
 · rfl
 rw [if_neg (by decide)]
 cases decide (x2 ≤ x1.2.1.2.1)
 case true => rfl
 cases impl_within x1.2.2.1 0 2
 · rfl
 by_cases l1 : (x1.2.2.2.1.length : Int) = x2
 case neg => rw [decide_eq_false l1]; rfl
 by_cases l2 : (x1.2.2.2.2.1.length : Int) = x2
 case neg => rw [decide_eq_true l1, decide_eq_false l2]; rfl
 by_cases l3 : (x1.2.2.2.2.2.1.length : Int) = x2
 case neg =>
  rw [decide_eq_true l1, decide_eq_true l2, decide_eq_false l3]
  cases impl_allWithin x1.2.2.2.2.1 1 (IntKind.wrap .i64 ((LastOf x1.2.1.2.2.1).1 + 1)) <;> rfl
 have hw := within_hi w5
 rw [decide_eq_true l1, decide_eq_true l2, decide_eq_true l3]
 simp only [Bool.not_true, Bool.not_false, Bool.false_eq_true, if_true, if_false, Bool.true_and]
 rw [if_pos (show pre5 (x2, ((LastOf x1.2.1.2.2.1).1, ((0 : Int), (x0, (x1, ()))))) = true by simp only [pre5, decide_eq_true l2, decide_eq_true l3, al_start (show x1.2.2.2.2.1.length ≤ 16777216 by omega)]; rfl),
  show fn5 (x2, ((LastOf x1.2.1.2.2.1).1, ((0 : Int), (x0, (x1, ()))))) = _ from al_all,
  show allN (nmAt x1 (LastOf x1.2.1.2.2.1).1) 0 x1.2.2.2.2.1.length = (impl_allWithin x1.2.2.2.2.1 1 (IntKind.wrap .i64 ((LastOf x1.2.1.2.2.1).1 + 1)) && impl_allWithin x1.2.2.2.2.2.1 0 (LastOf x1.2.1.2.2.1).1) by
   rw [show nmAt x1 (LastOf x1.2.1.2.2.1).1 = fun j => impl_within (x1.2.2.2.2.1.getD j (0 : Int)) 1 (IntKind.wrap .i64 ((LastOf x1.2.1.2.2.1).1 + 1)) && impl_within (x1.2.2.2.2.2.1.getD j (0 : Int)) 0 (LastOf x1.2.1.2.2.1).1 from rfl, allN_and]
   refine congr (congrArg _ (allN_all (p := fun n => impl_within n 1 (IntKind.wrap .i64 ((LastOf x1.2.1.2.2.1).1 + 1))))) ?_
   rw [show x1.2.2.2.2.1.length = x1.2.2.2.2.2.1.length by omega]
   exact allN_all (p := fun n => impl_within n 0 (LastOf x1.2.1.2.2.1).1)]
 cases impl_allWithin x1.2.2.2.2.1 1 (IntKind.wrap .i64 ((LastOf x1.2.1.2.2.1).1 + 1))
 · rfl
 cases impl_allWithin x1.2.2.2.2.2.1 0 (LastOf x1.2.1.2.2.1).1
 · rfl
 simp only [Bool.and_true, Bool.true_and, cond_true]
 rw [if_pos (show pre10 (x2, ((LastOf x1.2.1.2.2.1).1, ((0 : Int), (x0, (x1, ()))))) = true from al_start (small_iff.1 hp.2.2)),
  show fn10 (x2, ((LastOf x1.2.1.2.2.1).1, ((0 : Int), (x0, (x1, ()))))) = _ from al_all, show allN (fun j => rpcAt x1 x2 (x1.2.2.2.2.2.2.2.2.2.1.getD j zd5)) 0 x1.2.2.2.2.2.2.2.2.2.1.length = x1.2.2.2.2.2.2.2.2.2.1.all (rpcAt x1 x2) from allN_all]
 cases x1.2.2.2.2.2.2.2.2.2.1.all (rpcAt x1 x2)
 · simp
 simp only [cond_true]
 cases impl_within x1.2.2.2.2.2.2.1 x1.2.1.2.2.1.1 (LastOf x1.2.1.2.2.1).1
 · rfl
 rw [show spec_KeepOk.pre x0 x1.2.2.2.2.2.2.2.1 = true from hp.2.1]
 cases spec_KeepOk x0 x1.2.2.2.2.2.2.2.1
 · rfl
 cases DiskOk x1.2.2.2.2.2.2.2.2.1
 · rfl
 cases decide ((x1.2.2.2.2.2.2.2.2.2.1.length : Int) ≤ 40) <;> rfl
end spec_PeerOk
def zPeer : Peer := ((0 : Int), (((0 : Int), ((0 : Int), (zd37, (zd26, ())))), ((0 : Int), (([] : List Bool), (([] : List Int), (([] : List Int), ((0 : Int), (zd26, ((([] : List Int), ((0 : Int), ())), (([] : List Rpc), ()))))))))))
def newPeer (p : Setup) (id size : Int) : Peer := (id, (HardNew p, ((0 : Int), (List.replicate size.toNat false, (List.replicate size.toNat (1 : Int), (List.replicate size.toNat (0 : Int), ((0 : Int), (KeepNew p, ((([] : List Int), ((0 : Int), ())), (([] : List Rpc), ()))))))))))
def PeerNew (p : Setup) (id size : Int) : Peer × Bool := cond (SetupOk p && (impl_within size 1 5 && spec_PeerOk p (newPeer p id size) size)) (newPeer p id size, true) (zPeer, false)
theorem keepOk_none {mk mk' : Maker → Int → Bool} {s : Setup} {k : Keep} (h : k.2.1 = []) : keepOk mk s k = keepOk mk' s k := by
 unfold keepOk
 rw [h]; rfl
theorem KeepNew_none (p : Setup) : (KeepNew p).2.1 = [] := by
 unfold KeepNew
 split <;> rfl
theorem HardNew_none (p : Setup) : (HardNew p).2.2.2.1.2.1 = [] := by
 unfold HardNew
 split
 · exact KeepNew_none p
 · rfl
theorem newPeer_ok (p : Setup) (id size : Int) : impl_PeerOk p (newPeer p id size) size = spec_PeerOk p (newPeer p id size) size := by
 unfold impl_PeerOk spec_PeerOk peerOk hardOk
 rw [show impl_KeepOk p (newPeer p id size).2.2.2.2.2.2.2.1 = spec_KeepOk p (newPeer p id size).2.2.2.2.2.2.2.1 from keepOk_none (KeepNew_none p),
  show impl_KeepOk p (newPeer p id size).2.1.2.2.2.1 = spec_KeepOk p (newPeer p id size).2.1.2.2.2.1 from keepOk_none (HardNew_none p)]
theorem setup_of (p : Setup) (id size : Int) (h : SetupOk p = false) : spec_PeerOk p (newPeer p id size) size = false := by
 have hk : ∀ k, spec_KeepOk p k = false := fun k => by unfold spec_KeepOk keepOk; rw [h]; rfl
 unfold spec_PeerOk peerOk hardOk
 simp [hk]
theorem small_rep {α : Type} {a : α} {n : Nat} (h : n ≤ 16777216) : small (List.replicate n a) = true := by rw [small_iff]; simpa using h
theorem keepS_new (p : Setup) : keepS (KeepNew p) = true := by
 unfold KeepNew
 split
 · rename_i h
   simp only [SetupOk, Bool.and_eq_true] at h
   have h1 := within_hi h.1
   have hg : groupS (GroupNew p.1) = true := by
    unfold GroupNew
    rw [if_pos h.1]
    simp only [groupS, Bool.and_eq_true]
    exact ⟨rfl, rfl, small_rep (by omega)⟩
   simp only [keepS, newKeep, Bool.and_eq_true]
   refine ⟨small_rep (by omega), ?_, rfl, rfl, small_rep (by decide), ?_, small_rep (by decide), small_rep (by decide)⟩
   · rw [List.all_eq_true]; intro x hx; rw [List.eq_of_mem_replicate hx]; rfl
   · rw [List.all_eq_true]; intro x hx; rw [List.eq_of_mem_replicate hx]; exact hg
 · rfl
theorem keepS_hard (p : Setup) : keepS (HardNew p).2.2.2.1 = true := by
 unfold HardNew
 split
 · exact keepS_new p
 · rfl
namespace impl_PeerNew
def pre (_ : Setup) (_ _ : Int) : Bool := true
abbrev wf (x0 : Setup) (x1 : Int) (x2 : Int) : Prop := wfA [(.val zk25 .f), (.val (.int .i64) .f), (.val (.int .i64) .f)] (x0, (x1, (x2, ())))
noncomputable def raw (x0 : Setup) (x1 : Int) (x2 : Int) : Option (Unit × (zt2 × (Bool × Unit))) :=
 letB (impl_within x2 (1 : Int) (5 : Int)) fun v1 =>
 if (!v1) = true then
 some zd14
 else
 if (impl_HardNew.pre x0) = true then
 if (decide ((0 : Int) ≤ x2)) = true then
 if (decide (x2 ≤ x2)) = true then
 if (decide (x2 ≤ (4294967296 : Int))) = true then
 if (impl_ones.pre x2) = true then
 if (decide ((0 : Int) ≤ x2)) = true then
 if (decide (x2 ≤ x2)) = true then
 if (decide (x2 ≤ (4294967296 : Int))) = true then
 if (impl_KeepNew.pre x0) = true then
 letB (HardNew x0) fun v2 =>
 letB (impl_ones x2) fun v3 =>
 letB (KeepNew x0) fun v4 =>
 if (impl_PeerOk.pre x0 (x1, (v2, ((0 : Int), ((List.replicate (Int.toNat x2) false), (v3, ((List.replicate (Int.toNat x2) (0 : Int)), ((0 : Int), (v4, zd31)))))))) x2) = true then
 letB (impl_PeerOk x0 (x1, (v2, ((0 : Int), ((List.replicate (Int.toNat x2) false), (v3, ((List.replicate (Int.toNat x2) (0 : Int)), ((0 : Int), (v4, zd31)))))))) x2) fun v5 =>
 if (!v5) = true then
 some zd14
 else
 some ((), ((x1, (v2, ((0 : Int), ((List.replicate (Int.toNat x2) false), (v3, ((List.replicate (Int.toNat x2) (0 : Int)), ((0 : Int), (v4, zd31)))))))), (true, ())))
 else
 none
 else
 none
 else
 none
 else
 none
 else
 none
 else
 none
 else
 none
 else
 none
 else
 none
 else
 none
theorem eq (x0 : Setup) (x1 x2 : Int) (_ : wf x0 x1 x2) (_ : pre x0 x1 x2 = true) : raw x0 x1 x2 = some ((), ((PeerNew x0 x1 x2).1, ((PeerNew x0 x1 x2).2, ()))) := by
 unfold raw PeerNew
 simp only [letB]
 cases w : impl_within x2 1 5
 · cases SetupOk x0 <;> rfl
 have hw := within_hi w
 have e : impl_PeerOk x0 (newPeer x0 x1 x2) x2 = (SetupOk x0 && spec_PeerOk x0 (newPeer x0 x1 x2) x2) := by
  rw [newPeer_ok]
  cases h : SetupOk x0
  · rw [setup_of x0 x1 x2 h]; rfl
  · rfl
 refine E_else (by decide) (E_if (show impl_HardNew.pre x0 = true from rfl) (E_if (by simp; omega) (E_if (by simp) (E_if (by simp; omega) (E_if (show impl_ones.pre x2 = true by simp only [impl_ones.pre, Bool.and_eq_true, decide_eq_true_eq]; omega) (E_if (by simp; omega) (E_if (by simp) (E_if (by simp; omega) (E_if (show impl_KeepNew.pre x0 = true from rfl) (E_if ?_ ?_))))))))))
 · show (keepS (HardNew x0).2.2.2.1 && keepS (KeepNew x0)) = true
   rw [keepS_hard, keepS_new]; rfl
 show (if (!impl_PeerOk x0 (newPeer x0 x1 x2) x2) = true then some ((), (zPeer, (false, ()))) else some ((), (newPeer x0 x1 x2, (true, ())))) = _
 rw [e]
 cases SetupOk x0 <;> cases spec_PeerOk x0 (newPeer x0 x1 x2) x2 <;> rfl
end impl_PeerNew
namespace spec_PeerNew
def pre (_ : Setup) (_ _ : Int) : Bool := true
abbrev wf (x0 : Setup) (x1 : Int) (x2 : Int) : Prop := wfA [(.val zk25 .f), (.val (.int .i64) .f), (.val (.int .i64) .f)] (x0, (x1, (x2, ())))
noncomputable def raw (x0 : Setup) (x1 : Int) (x2 : Int) : Option (Unit × (zt2 × (Bool × Unit))) :=
 letB (SetupOk x0) fun v1 =>
 if (!v1) = true then
 some zd14
 else
 letB (impl_within x2 (1 : Int) (5 : Int)) fun v2 =>
 if (!v2) = true then
 some zd14
 else
 if (spec_HardNew.pre x0) = true then
 if (decide ((0 : Int) ≤ x2)) = true then
 if (decide (x2 ≤ x2)) = true then
 if (decide (x2 ≤ (4294967296 : Int))) = true then
 if (spec_l12Ones.pre x2 (1 : Int)) = true then
 if (decide ((0 : Int) ≤ x2)) = true then
 if (decide (x2 ≤ x2)) = true then
 if (decide (x2 ≤ (4294967296 : Int))) = true then
 if (spec_KeepNew.pre x0) = true then
 letB (HardNew x0) fun v3 =>
 letB (spec_l12Ones x2 (1 : Int)) fun v4 =>
 letB (KeepNew x0) fun v5 =>
 if (spec_PeerOk.pre x0 (x1, (v3, ((0 : Int), ((List.replicate (Int.toNat x2) false), (v4, ((List.replicate (Int.toNat x2) (0 : Int)), ((0 : Int), (v5, zd31)))))))) x2) = true then
 letB (spec_PeerOk x0 (x1, (v3, ((0 : Int), ((List.replicate (Int.toNat x2) false), (v4, ((List.replicate (Int.toNat x2) (0 : Int)), ((0 : Int), (v5, zd31)))))))) x2) fun v6 =>
 if (!v6) = true then
 some zd14
 else
 some ((), ((x1, (v3, ((0 : Int), ((List.replicate (Int.toNat x2) false), (v4, ((List.replicate (Int.toNat x2) (0 : Int)), ((0 : Int), (v5, zd31)))))))), (true, ())))
 else
 none
 else
 none
 else
 none
 else
 none
 else
 none
 else
 none
 else
 none
 else
 none
 else
 none
 else
 none
theorem eq (x0 : Setup) (x1 x2 : Int) (_ : wf x0 x1 x2) (_ : pre x0 x1 x2 = true) : raw x0 x1 x2 = some ((), ((PeerNew x0 x1 x2).1, ((PeerNew x0 x1 x2).2, ()))) := by
 unfold raw PeerNew
 simp only [letB]
 cases SetupOk x0
 · rfl
 cases w : impl_within x2 1 5
 · rfl
 have hw := within_hi w
 refine E_else (by decide) (E_else (by decide) (E_if (show spec_HardNew.pre x0 = true from rfl) (E_if (by simp; omega) (E_if (by simp) (E_if (by simp; omega) (E_if (show spec_l12Ones.pre x2 1 = true by simp only [spec_l12Ones.pre, Bool.and_eq_true, decide_eq_true_eq]; omega) (E_if (by simp; omega) (E_if (by simp) (E_if (by simp; omega) (E_if (show spec_KeepNew.pre x0 = true from rfl) (E_if ?_ ?_)))))))))))
 · show (keepS (HardNew x0).2.2.2.1 && (keepS (KeepNew x0) && small ([] : List Rpc))) = true
   rw [keepS_hard, keepS_new]; rfl
 show (if (!spec_PeerOk x0 (newPeer x0 x1 x2) x2) = true then some ((), (zPeer, (false, ()))) else some ((), (newPeer x0 x1 x2, (true, ())))) = _
 cases spec_PeerOk x0 (newPeer x0 x1 x2) x2 <;> rfl
end spec_PeerNew
abbrev impl_PeerNew := PeerNew
abbrev spec_PeerNew := PeerNew
theorem KeepNew_cnt (x : Setup) : cntT_Keep (KeepNew x) ≤ 1000 := by
 unfold KeepNew
 split
 · rename_i h
   simp only [SetupOk, Bool.and_eq_true] at h
   have := within_hi h.1
   have hg := GroupNew_cnt x.1
   simp only [cntT_Keep, newKeep, cntL_rep, cntL, cnt_Row, cnt_Int, cnt_Answer]
   omega
 · simp [cntT_Keep, zKeep, cntL]
theorem PeerNew_cnt (p : Setup) (id size : Int) : cntT_Peer (PeerNew p id size).1 ≤ 10000 := by
 unfold PeerNew
 cases h : (SetupOk p && (impl_within size 1 5 && spec_PeerOk p (newPeer p id size) size))
 · simp [zPeer, cntT_Peer, cntT_Hard, cntT_Log, cntT_Keep, cntT_Disk, cntL]
 · simp only [Bool.and_eq_true] at h
   have hw := within_hi h.2.1
   have h1 := HardNew_cnt p
   have h2 := KeepNew_cnt p
   simp only [cond_true, cntT_Peer, newPeer, cntT_Disk, cntL_rep, cntL, cnt_Int, cnt_Bool]
   omega
def laws_FnExactPeerNew (_ : Setup) (_ _ : Int) : Bool := true
namespace laws_FnExactPeerNew
abbrev wf (x0 : Setup) (x1 : Int) (x2 : Int) : Prop := wfA [(.val zk25 .f), (.val (.int .i64) .f), (.val (.int .i64) .f)] (x0, (x1, (x2, ())))
noncomputable def raw (x0 : Setup) (x1 : Int) (x2 : Int) : Option zt17 :=
 letB (laws_toSetup x0) fun v1 =>
 if (spec_PeerNew.pre v1 x1 x2) = true then
 if (impl_PeerNew.pre v1 x1 x2) = true then
 letB (impl_PeerNew v1 x1 x2) fun v2 =>
 letB (spec_PeerNew v1 x1 x2) fun v3 =>
 letB (laws_eqPeer v2.1 v3.1) fun v4 =>
 if (!v4) = true then
 some ((), (false, ()))
 else
 if (!(v2.2 == v3.2)) = true then
 some ((), (false, ()))
 else
 if (laws_markPeer.pre v2.1 (1 : Int)) = true then
 letB (laws_markPeer v2.1 (1 : Int)) fun v5 =>
 if (laws_heldPeer.pre (v2.1.1, ((v2.1.2.1.1, (v2.1.2.1.2.1, ((v2.1.2.1.2.2.1.1, (v2.1.2.1.2.2.1.2.1, (v5.1.2.1.2.2.1.2.2.1, v2.1.2.1.2.2.1.2.2.2))), ((v5.1.2.1.2.2.2.1.1, (v5.1.2.1.2.2.2.1.2.1, (v5.1.2.1.2.2.2.1.2.2.1, (v2.1.2.1.2.2.2.1.2.2.2.1, (v5.1.2.1.2.2.2.1.2.2.2.2.1, (v5.1.2.1.2.2.2.1.2.2.2.2.2.1, v2.1.2.1.2.2.2.1.2.2.2.2.2.2)))))), v2.1.2.1.2.2.2.2)))), (v2.1.2.2.1, (v5.1.2.2.2.1, (v5.1.2.2.2.2.1, (v5.1.2.2.2.2.2.1, (v2.1.2.2.2.2.2.2.1, ((v5.1.2.2.2.2.2.2.2.1.1, (v5.1.2.2.2.2.2.2.2.1.2.1, (v5.1.2.2.2.2.2.2.2.1.2.2.1, (v2.1.2.2.2.2.2.2.2.1.2.2.2.1, (v5.1.2.2.2.2.2.2.2.1.2.2.2.2.1, (v5.1.2.2.2.2.2.2.2.1.2.2.2.2.2.1, v2.1.2.2.2.2.2.2.2.1.2.2.2.2.2.2)))))), ((v5.1.2.2.2.2.2.2.2.2.1.1, v2.1.2.2.2.2.2.2.2.2.1.2), (v5.1.2.2.2.2.2.2.2.2.2.1, v2.1.2.2.2.2.2.2.2.2.2.2)))))))))) (1 : Int)) = true then
 letB (laws_heldPeer (v2.1.1, ((v2.1.2.1.1, (v2.1.2.1.2.1, ((v2.1.2.1.2.2.1.1, (v2.1.2.1.2.2.1.2.1, (v5.1.2.1.2.2.1.2.2.1, v2.1.2.1.2.2.1.2.2.2))), ((v5.1.2.1.2.2.2.1.1, (v5.1.2.1.2.2.2.1.2.1, (v5.1.2.1.2.2.2.1.2.2.1, (v2.1.2.1.2.2.2.1.2.2.2.1, (v5.1.2.1.2.2.2.1.2.2.2.2.1, (v5.1.2.1.2.2.2.1.2.2.2.2.2.1, v2.1.2.1.2.2.2.1.2.2.2.2.2.2)))))), v2.1.2.1.2.2.2.2)))), (v2.1.2.2.1, (v5.1.2.2.2.1, (v5.1.2.2.2.2.1, (v5.1.2.2.2.2.2.1, (v2.1.2.2.2.2.2.2.1, ((v5.1.2.2.2.2.2.2.2.1.1, (v5.1.2.2.2.2.2.2.2.1.2.1, (v5.1.2.2.2.2.2.2.2.1.2.2.1, (v2.1.2.2.2.2.2.2.2.1.2.2.2.1, (v5.1.2.2.2.2.2.2.2.1.2.2.2.2.1, (v5.1.2.2.2.2.2.2.2.1.2.2.2.2.2.1, v2.1.2.2.2.2.2.2.2.1.2.2.2.2.2.2)))))), ((v5.1.2.2.2.2.2.2.2.2.1.1, v2.1.2.2.2.2.2.2.2.2.1.2), (v5.1.2.2.2.2.2.2.2.2.2.1, v2.1.2.2.2.2.2.2.2.2.2.2)))))))))) (1 : Int)) fun v6 =>
 if (decide (v6 < (0 : Int))) = true then
 some ((), (false, ()))
 else
 if (!(decide (v6 = v5.2))) = true then
 some ((), (false, ()))
 else
 if (impl_PeerNew.pre v1 x1 x2) = true then
 letB (laws_eqPeer v2.1 v3.1) fun v7 =>
 if (!v7) = true then
 some ((), (false, ()))
 else
 if (!(v2.2 == v3.2)) = true then
 some ((), (false, ()))
 else
 if (laws_heldPeer.pre (v2.1.1, ((v2.1.2.1.1, (v2.1.2.1.2.1, ((v2.1.2.1.2.2.1.1, (v2.1.2.1.2.2.1.2.1, (v5.1.2.1.2.2.1.2.2.1, v2.1.2.1.2.2.1.2.2.2))), ((v5.1.2.1.2.2.2.1.1, (v5.1.2.1.2.2.2.1.2.1, (v5.1.2.1.2.2.2.1.2.2.1, (v2.1.2.1.2.2.2.1.2.2.2.1, (v5.1.2.1.2.2.2.1.2.2.2.2.1, (v5.1.2.1.2.2.2.1.2.2.2.2.2.1, v2.1.2.1.2.2.2.1.2.2.2.2.2.2)))))), v2.1.2.1.2.2.2.2)))), (v2.1.2.2.1, (v5.1.2.2.2.1, (v5.1.2.2.2.2.1, (v5.1.2.2.2.2.2.1, (v2.1.2.2.2.2.2.2.1, ((v5.1.2.2.2.2.2.2.2.1.1, (v5.1.2.2.2.2.2.2.2.1.2.1, (v5.1.2.2.2.2.2.2.2.1.2.2.1, (v2.1.2.2.2.2.2.2.2.1.2.2.2.1, (v5.1.2.2.2.2.2.2.2.1.2.2.2.2.1, (v5.1.2.2.2.2.2.2.2.1.2.2.2.2.2.1, v2.1.2.2.2.2.2.2.2.1.2.2.2.2.2.2)))))), ((v5.1.2.2.2.2.2.2.2.2.1.1, v2.1.2.2.2.2.2.2.2.2.1.2), (v5.1.2.2.2.2.2.2.2.2.2.1, v2.1.2.2.2.2.2.2.2.2.2.2)))))))))) (1 : Int)) = true then
 if (decide (v6 < (0 : Int))) = true then
 some ((), (false, ()))
 else
 if (!(decide (v6 = v5.2))) = true then
 some ((), (false, ()))
 else
 some ((), (true, ()))
 else
 none
 else
 none
 else
 none
 else
 none
 else
 none
 else
 none
theorem eq (x0 : Setup) (x1 x2 : Int) (_ : wf x0 x1 x2) : raw x0 x1 x2 = some ((), (laws_FnExactPeerNew x0 x1 x2, ())) := by
 unfold raw
 have hc := PeerNew_cnt x0 x1 x2
 have m0 := cntT_Peer_nn (PeerNew x0 x1 x2).1
 have s3 : laws_markPeer.pre (PeerNew x0 x1 x2).1 1 = true := markPeer_pre (by omega) (by omega)
 have s4 : laws_heldPeer.pre (mkT_Peer (PeerNew x0 x1 x2).1 1) 1 = true := heldPeer_pre (by omega) (by rw [mkT_Peer_keep]; omega)
 have s5 : laws_heldPeer (mkT_Peer (PeerNew x0 x1 x2).1 1) 1 = 1 + cntT_Peer (PeerNew x0 x1 x2).1 := held_markPeer _ 1
 have eqs : ∀ a : Peer, ¬ (!laws_eqPeer a a) = true := fun a => by rw [show laws_eqPeer a a = true from same_self a]; decide
 have eqb : ∀ a : Bool, ¬ (!(a == a)) = true := fun a => by simp
 have f1 : ¬ decide (laws_heldPeer (mkT_Peer (PeerNew x0 x1 x2).1 1) 1 < 0) = true := by rw [s5, decide_eq_true_eq]; omega
 have f2 : ¬ (!decide (laws_heldPeer (mkT_Peer (PeerNew x0 x1 x2).1 1) 1 = 1 + cntT_Peer (PeerNew x0 x1 x2).1)) = true := by rw [s5]; simp
 refine E_let (E_if (show spec_PeerNew.pre _ _ _ = true from rfl) (E_if (show impl_PeerNew.pre _ _ _ = true from rfl) (E_let (E_let (E_let (E_else (eqs _) (E_else (eqb _) (E_if s3 (E_let (E_if s4 (E_let ?_)))))))))))
 refine E_else f1 (E_else f2 (E_if (show impl_PeerNew.pre _ _ _ = true from rfl) (E_let (E_else (eqs _) (E_else (eqb _) (E_if s4 (E_else f1 (E_else f2 rfl))))))))
end laws_FnExactPeerNew
end Go.Aw.Pl
