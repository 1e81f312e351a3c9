/-
  No cell of these rows narrows 'for every input' (looked for: loops, veiled, ifaces, maps, wideKeys, modest, calm, conditions, laid).
  DERIVED. THE GIVEN ROWS OF THIS SEAT. 3 by the template 'for every input the law returns true; each argument reads behind the call as it read before'; 0 by the template 'total and deterministic' (their statements: YthkbmmjpjcehpaaGreatTotals.lean).
  GIVEN WITH THE SEED: the statements are not yours to turn. If you find one false, say at which input.
  Laid BY PROGRAM, IN A SANDBOX (cutbox-rows.mjs): the forced cells as the released guide's own fill.sh prints them over the translation 6dc35ddabeee2c37… (all of the seat's roots in one cut). By AI agents, Wed Nov 11 2026. No macro, syntax, notation, axiom, sorry.
-/
import Derived.Test.YthkbmmjpjcehpaaGreatChecked
import GoSem.Claim
import GoSem.ClaimJoined
import GoSem.ClaimMapViews
import Derived.JoinedTies
import Derived.KernelRfl
namespace Go.Proofs.YthkbmmjpjcehpaaGreat
/- THE CELL 'sum', in the pinned program and in every row, IS THE sha256 OF THE DUMP (.gsa) THAT YthkbmmjpjcehpaaGreatProg.lean LOADS. Nothing in Lean hashes anything: it is a label: what it is worth is what the hold of that sum in a sandbox is worth. -/
noncomputable def Tryz.pinned : Pinned := { name := "ythkbmmjpjcehpaagreat", sum := "6dc35ddabeee2c376eca5e5df50ddba3d82a4b0d47602f34f807e52ac0631df5", checked := Tryz.checked }
namespace Rows
def none {H : Type} : Left H := { results := [], args := [] }

/-- 'laws.FnReadsStay': WHATEVER THE INPUT: true; the input reads as it did. -/
def fnReadsStaySpec : ChangeSpec := { name := "fnReadsStay", fn := fun _ => fun
  | [d] => { results := [.lit (.bool true)], args := [d] }
  | _ => none }
def fnReadsStayRow : OpenClaim := { program := "ythkbmmjpjcehpaagreat", sum := "6dc35ddabeee2c376eca5e5df50ddba3d82a4b0d47602f34f807e52ac0631df5", func := "loop.example/g00393/laws.FnReadsStay", spec := "fnReadsStay", inPlace := ["slices.overlaps[int]"], unfollowed := true, recurses := true, apart := false }
def FnReadsStaySaid : Prop := fnReadsStayRow.holds Tryz.pinned (OpenSpec.ofChange fnReadsStaySpec)

/-- ITS FALSE NEIGHBOUR: 'it returns false'. Refute it at one input. -/
def fnReadsStayWrong : ChangeSpec := { name := "fnReadsStay", fn := fun _ => fun
  | [d] => { results := [.lit (.bool false)], args := [d] }
  | _ => none }
def FnReadsStayWrongFalsely : Prop := fnReadsStayRow.holds Tryz.pinned (OpenSpec.ofChange fnReadsStayWrong)

/-- 'laws.FnKeeper': WHATEVER THE INPUT: true; the input reads as it did. -/
def fnKeeperSpec : ChangeSpec := { name := "fnKeeper", fn := fun _ => fun
  | [d] => { results := [.lit (.bool true)], args := [d] }
  | _ => none }
def fnKeeperRow : OpenClaim := { program := "ythkbmmjpjcehpaagreat", sum := "6dc35ddabeee2c376eca5e5df50ddba3d82a4b0d47602f34f807e52ac0631df5", func := "loop.example/g00393/laws.FnKeeper", spec := "fnKeeper", inPlace := ["slices.overlaps[int]"], unfollowed := true, recurses := true, apart := false }
def FnKeeperSaid : Prop := fnKeeperRow.holds Tryz.pinned (OpenSpec.ofChange fnKeeperSpec)

/-- ITS FALSE NEIGHBOUR: 'it returns false'. Refute it at one input. -/
def fnKeeperWrong : ChangeSpec := { name := "fnKeeper", fn := fun _ => fun
  | [d] => { results := [.lit (.bool false)], args := [d] }
  | _ => none }
def FnKeeperWrongFalsely : Prop := fnKeeperRow.holds Tryz.pinned (OpenSpec.ofChange fnKeeperWrong)

/-- 'laws.FnExactKeepAll': WHATEVER THE INPUT: true; the input reads as it did. -/
def fnExactKeepAllSpec : ChangeSpec := { name := "fnExactKeepAll", fn := fun _ => fun
  | [d1, d2] => { results := [.lit (.bool true)], args := [d1, d2] }
  | _ => none }
def fnExactKeepAllRow : OpenClaim := { program := "ythkbmmjpjcehpaagreat", sum := "6dc35ddabeee2c376eca5e5df50ddba3d82a4b0d47602f34f807e52ac0631df5", func := "loop.example/g00393/laws.FnExactKeepAll", spec := "fnExactKeepAll", inPlace := ["slices.overlaps[int]"], unfollowed := true, recurses := true, apart := false }
def FnExactKeepAllSaid : Prop := fnExactKeepAllRow.holds Tryz.pinned (OpenSpec.ofChange fnExactKeepAllSpec)

/-- ITS FALSE NEIGHBOUR: 'it returns false'. Refute it at one input. -/
def fnExactKeepAllWrong : ChangeSpec := { name := "fnExactKeepAll", fn := fun _ => fun
  | [d1, d2] => { results := [.lit (.bool false)], args := [d1, d2] }
  | _ => none }
def FnExactKeepAllWrongFalsely : Prop := fnExactKeepAllRow.holds Tryz.pinned (OpenSpec.ofChange fnExactKeepAllWrong)

/- THE SECOND FORM. 'bulk': how many values and letters a reading holds, each counted each time it is reached (what is shared counts as often as it is met; a slice's spare places count too). A statement '..UptoSaid' is the law's where the arguments, and the package variables that the reading takes, are together of bulk at most 1048576: NARROWER than '..Said'. Prove '..Said' where nothing that the law and all that it calls make is longer than what came in: it says more and counts as full. Else prove '..UptoSaid'. A law counts once. -/
mutual
def uptoBulk {H : Type} : DataW H → Nat
  | .lit (.string bytes) => bytes.length + 1
  | .lit _ => 1
  | .nil => 1
  | .ptr d => uptoBulk d + 1
  | .slice elems spare => uptoBulkAll elems + uptoBulkAll spare + 1
  | .agg parts => uptoBulkAll parts + 1
  | .iface _ d => uptoBulk d + 1
  | .map entries => uptoBulkEntries entries + 1
  | .held _ => 1
def uptoBulkAll {H : Type} : List (DataW H) → Nat
  | [] => 0
  | d :: r => uptoBulk d + uptoBulkAll r
def uptoBulkEntries {H : Type} : List (Lit × DataW H) → Nat
  | [] => 0
  | x :: r => uptoBulkEntry x + uptoBulkEntries r
def uptoBulkEntry {H : Type} : Lit × DataW H → Nat
  | (.string bytes, d) => bytes.length + uptoBulk d + 1
  | (_, d) => uptoBulk d + 1
 end
def uptoSmall : (H : Type) → List (DataW H) → Bool := fun _ ds => decide (uptoBulkAll ds ≤ 1048576)
def OpenSpec.upto (s : _root_.Go.ChangeSpec) : _root_.Go.OpenSpec := { _root_.Go.OpenSpec.ofChange s with cond := some uptoSmall }

/-- 'laws.FnReadsStay', WHERE WHAT IT READS IS OF BULK AT MOST 1048576: true; the input reads as it did. -/
def fnReadsStayUptoRow : OpenClaim := { program := "ythkbmmjpjcehpaagreat", sum := "6dc35ddabeee2c376eca5e5df50ddba3d82a4b0d47602f34f807e52ac0631df5", func := "loop.example/g00393/laws.FnReadsStay", spec := "fnReadsStay", inPlace := ["slices.overlaps[int]"], unfollowed := true, recurses := true, apart := false, narrowed := true }
def FnReadsStayUptoSaid : Prop := fnReadsStayUptoRow.holds Tryz.pinned (OpenSpec.upto fnReadsStaySpec)

/-- 'laws.FnKeeper', WHERE WHAT IT READS IS OF BULK AT MOST 1048576: true; the input reads as it did. -/
def fnKeeperUptoRow : OpenClaim := { program := "ythkbmmjpjcehpaagreat", sum := "6dc35ddabeee2c376eca5e5df50ddba3d82a4b0d47602f34f807e52ac0631df5", func := "loop.example/g00393/laws.FnKeeper", spec := "fnKeeper", inPlace := ["slices.overlaps[int]"], unfollowed := true, recurses := true, apart := false, narrowed := true }
def FnKeeperUptoSaid : Prop := fnKeeperUptoRow.holds Tryz.pinned (OpenSpec.upto fnKeeperSpec)

/-- 'laws.FnExactKeepAll', WHERE WHAT IT READS IS OF BULK AT MOST 1048576: true; the input reads as it did. -/
def fnExactKeepAllUptoRow : OpenClaim := { program := "ythkbmmjpjcehpaagreat", sum := "6dc35ddabeee2c376eca5e5df50ddba3d82a4b0d47602f34f807e52ac0631df5", func := "loop.example/g00393/laws.FnExactKeepAll", spec := "fnExactKeepAll", inPlace := ["slices.overlaps[int]"], unfollowed := true, recurses := true, apart := false, narrowed := true }
def FnExactKeepAllUptoSaid : Prop := fnExactKeepAllUptoRow.holds Tryz.pinned (OpenSpec.upto fnExactKeepAllSpec)

end Rows
end Go.Proofs.YthkbmmjpjcehpaaGreat
