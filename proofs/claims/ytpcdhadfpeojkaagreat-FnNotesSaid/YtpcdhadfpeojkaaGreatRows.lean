/-
  No cell of these rows narrows 'for every input' (looked for: loops, veiled, ifaces, maps, wideKeys, modest, calm, conditions, laid).
  DERIVED. THE GIVEN ROWS OF THIS SEAT. 9 by the template 'for every input the law returns true; each argument reads behind the call as it read before'; 0 by the template 'total and deterministic' (their statements: YtpcdhadfpeojkaaGreatTotals.lean).
  GIVEN WITH THE SEED: the statements are not yours to turn. If you find one false, say at which input.
  Laid BY PROGRAM, IN A SANDBOX (cutbox-rows.mjs): the forced cells as the released guide's own fill.sh prints them over the translation 914fd7915f5bfb16… (all of the seat's roots in one cut). By AI agents, Wed Nov 11 2026. No macro, syntax, notation, axiom, sorry.
-/
import Derived.Test.YtpcdhadfpeojkaaGreatChecked
import GoSem.Claim
import GoSem.ClaimJoined
import GoSem.ClaimMapViews
import Derived.JoinedTies
import Derived.KernelRfl
namespace Go.Proofs.YtpcdhadfpeojkaaGreat
/- THE CELL 'sum', in the pinned program and in every row, IS THE sha256 OF THE DUMP (.gsa) THAT YtpcdhadfpeojkaaGreatProg.lean LOADS. Nothing in Lean hashes anything: it is a label: what it is worth is what the hold of that sum in a sandbox is worth. -/
noncomputable def Tryz.pinned : Pinned := { name := "ytpcdhadfpeojkaagreat", sum := "914fd7915f5bfb16ca3e1e66378db4e500da686449d1209e9caf15d8b9c48e42", checked := Tryz.checked }
namespace Rows
def none {H : Type} : Left H := { results := [], args := [] }

/-- 'laws.FnReadsStay': WHATEVER THE INPUT: true; the input reads as it did. -/
def fnReadsStaySpec : ChangeSpec := { name := "fnReadsStay", fn := fun _ => fun
  | [d] => { results := [.lit (.bool true)], args := [d] }
  | _ => none }
def fnReadsStayRow : OpenClaim := { program := "ytpcdhadfpeojkaagreat", sum := "914fd7915f5bfb16ca3e1e66378db4e500da686449d1209e9caf15d8b9c48e42", func := "loop.example/g00393/laws.FnReadsStay", spec := "fnReadsStay", inPlace := ["slices.overlaps[int]"], unfollowed := true, recurses := true, apart := false }
def FnReadsStaySaid : Prop := fnReadsStayRow.holds Tryz.pinned (OpenSpec.ofChange fnReadsStaySpec)

/-- ITS FALSE NEIGHBOUR: 'it returns false'. Refute it at one input. -/
def fnReadsStayWrong : ChangeSpec := { name := "fnReadsStay", fn := fun _ => fun
  | [d] => { results := [.lit (.bool false)], args := [d] }
  | _ => none }
def FnReadsStayWrongFalsely : Prop := fnReadsStayRow.holds Tryz.pinned (OpenSpec.ofChange fnReadsStayWrong)

/-- 'laws.FnTorn': WHATEVER THE INPUT: true; the input reads as it did. -/
def fnTornSpec : ChangeSpec := { name := "fnTorn", fn := fun _ => fun
  | [d] => { results := [.lit (.bool true)], args := [d] }
  | _ => none }
def fnTornRow : OpenClaim := { program := "ytpcdhadfpeojkaagreat", sum := "914fd7915f5bfb16ca3e1e66378db4e500da686449d1209e9caf15d8b9c48e42", func := "loop.example/g00393/laws.FnTorn", spec := "fnTorn", unfollowed := true, recurses := true, apart := false }
def FnTornSaid : Prop := fnTornRow.holds Tryz.pinned (OpenSpec.ofChange fnTornSpec)

/-- ITS FALSE NEIGHBOUR: 'it returns false'. Refute it at one input. -/
def fnTornWrong : ChangeSpec := { name := "fnTorn", fn := fun _ => fun
  | [d] => { results := [.lit (.bool false)], args := [d] }
  | _ => none }
def FnTornWrongFalsely : Prop := fnTornRow.holds Tryz.pinned (OpenSpec.ofChange fnTornWrong)

/-- 'laws.FnNotes': WHATEVER THE INPUT: true; the input reads as it did. -/
def fnNotesSpec : ChangeSpec := { name := "fnNotes", fn := fun _ => fun
  | [d] => { results := [.lit (.bool true)], args := [d] }
  | _ => none }
def fnNotesRow : OpenClaim := { program := "ytpcdhadfpeojkaagreat", sum := "914fd7915f5bfb16ca3e1e66378db4e500da686449d1209e9caf15d8b9c48e42", func := "loop.example/g00393/laws.FnNotes", spec := "fnNotes", unfollowed := true, recurses := true, apart := false }
def FnNotesSaid : Prop := fnNotesRow.holds Tryz.pinned (OpenSpec.ofChange fnNotesSpec)

/-- ITS FALSE NEIGHBOUR: 'it returns false'. Refute it at one input. -/
def fnNotesWrong : ChangeSpec := { name := "fnNotes", fn := fun _ => fun
  | [d] => { results := [.lit (.bool false)], args := [d] }
  | _ => none }
def FnNotesWrongFalsely : Prop := fnNotesRow.holds Tryz.pinned (OpenSpec.ofChange fnNotesWrong)

/-- 'laws.FnKeeper': WHATEVER THE INPUT: true; the input reads as it did. -/
def fnKeeperSpec : ChangeSpec := { name := "fnKeeper", fn := fun _ => fun
  | [d] => { results := [.lit (.bool true)], args := [d] }
  | _ => none }
def fnKeeperRow : OpenClaim := { program := "ytpcdhadfpeojkaagreat", sum := "914fd7915f5bfb16ca3e1e66378db4e500da686449d1209e9caf15d8b9c48e42", func := "loop.example/g00393/laws.FnKeeper", spec := "fnKeeper", inPlace := ["slices.overlaps[int]"], unfollowed := true, recurses := true, apart := false }
def FnKeeperSaid : Prop := fnKeeperRow.holds Tryz.pinned (OpenSpec.ofChange fnKeeperSpec)

/-- ITS FALSE NEIGHBOUR: 'it returns false'. Refute it at one input. -/
def fnKeeperWrong : ChangeSpec := { name := "fnKeeper", fn := fun _ => fun
  | [d] => { results := [.lit (.bool false)], args := [d] }
  | _ => none }
def FnKeeperWrongFalsely : Prop := fnKeeperRow.holds Tryz.pinned (OpenSpec.ofChange fnKeeperWrong)

/-- 'laws.FnExactPeerNew': WHATEVER THE INPUT: true; the input reads as it did. -/
def fnExactPeerNewSpec : ChangeSpec := { name := "fnExactPeerNew", fn := fun _ => fun
  | [d1, d2, d3] => { results := [.lit (.bool true)], args := [d1, d2, d3] }
  | _ => none }
def fnExactPeerNewRow : OpenClaim := { program := "ytpcdhadfpeojkaagreat", sum := "914fd7915f5bfb16ca3e1e66378db4e500da686449d1209e9caf15d8b9c48e42", func := "loop.example/g00393/laws.FnExactPeerNew", spec := "fnExactPeerNew", unfollowed := true, recurses := true, apart := false }
def FnExactPeerNewSaid : Prop := fnExactPeerNewRow.holds Tryz.pinned (OpenSpec.ofChange fnExactPeerNewSpec)

/-- ITS FALSE NEIGHBOUR: 'it returns false'. Refute it at one input. -/
def fnExactPeerNewWrong : ChangeSpec := { name := "fnExactPeerNew", fn := fun _ => fun
  | [d1, d2, d3] => { results := [.lit (.bool false)], args := [d1, d2, d3] }
  | _ => none }
def FnExactPeerNewWrongFalsely : Prop := fnExactPeerNewRow.holds Tryz.pinned (OpenSpec.ofChange fnExactPeerNewWrong)

/-- 'laws.FnExactTell': WHATEVER THE INPUT: true; the input reads as it did. -/
def fnExactTellSpec : ChangeSpec := { name := "fnExactTell", fn := fun _ => fun
  | [d1, d2] => { results := [.lit (.bool true)], args := [d1, d2] }
  | _ => none }
def fnExactTellRow : OpenClaim := { program := "ytpcdhadfpeojkaagreat", sum := "914fd7915f5bfb16ca3e1e66378db4e500da686449d1209e9caf15d8b9c48e42", func := "loop.example/g00393/laws.FnExactTell", spec := "fnExactTell", apart := false }
def FnExactTellSaid : Prop := fnExactTellRow.holds Tryz.pinned (OpenSpec.ofChange fnExactTellSpec)

/-- ITS FALSE NEIGHBOUR: 'it returns false'. Refute it at one input. -/
def fnExactTellWrong : ChangeSpec := { name := "fnExactTell", fn := fun _ => fun
  | [d1, d2] => { results := [.lit (.bool false)], args := [d1, d2] }
  | _ => none }
def FnExactTellWrongFalsely : Prop := fnExactTellRow.holds Tryz.pinned (OpenSpec.ofChange fnExactTellWrong)

/-- 'laws.FnExactKeepAll': WHATEVER THE INPUT: true; the input reads as it did. -/
def fnExactKeepAllSpec : ChangeSpec := { name := "fnExactKeepAll", fn := fun _ => fun
  | [d1, d2] => { results := [.lit (.bool true)], args := [d1, d2] }
  | _ => none }
def fnExactKeepAllRow : OpenClaim := { program := "ytpcdhadfpeojkaagreat", sum := "914fd7915f5bfb16ca3e1e66378db4e500da686449d1209e9caf15d8b9c48e42", func := "loop.example/g00393/laws.FnExactKeepAll", spec := "fnExactKeepAll", inPlace := ["slices.overlaps[int]"], unfollowed := true, recurses := true, apart := false }
def FnExactKeepAllSaid : Prop := fnExactKeepAllRow.holds Tryz.pinned (OpenSpec.ofChange fnExactKeepAllSpec)

/-- ITS FALSE NEIGHBOUR: 'it returns false'. Refute it at one input. -/
def fnExactKeepAllWrong : ChangeSpec := { name := "fnExactKeepAll", fn := fun _ => fun
  | [d1, d2] => { results := [.lit (.bool false)], args := [d1, d2] }
  | _ => none }
def FnExactKeepAllWrongFalsely : Prop := fnExactKeepAllRow.holds Tryz.pinned (OpenSpec.ofChange fnExactKeepAllWrong)

/-- 'laws.FnExactHardOf': WHATEVER THE INPUT: true; the input reads as it did. -/
def fnExactHardOfSpec : ChangeSpec := { name := "fnExactHardOf", fn := fun _ => fun
  | [d1, d2] => { results := [.lit (.bool true)], args := [d1, d2] }
  | _ => none }
def fnExactHardOfRow : OpenClaim := { program := "ytpcdhadfpeojkaagreat", sum := "914fd7915f5bfb16ca3e1e66378db4e500da686449d1209e9caf15d8b9c48e42", func := "loop.example/g00393/laws.FnExactHardOf", spec := "fnExactHardOf", unfollowed := true, recurses := true, apart := false }
def FnExactHardOfSaid : Prop := fnExactHardOfRow.holds Tryz.pinned (OpenSpec.ofChange fnExactHardOfSpec)

/-- ITS FALSE NEIGHBOUR: 'it returns false'. Refute it at one input. -/
def fnExactHardOfWrong : ChangeSpec := { name := "fnExactHardOf", fn := fun _ => fun
  | [d1, d2] => { results := [.lit (.bool false)], args := [d1, d2] }
  | _ => none }
def FnExactHardOfWrongFalsely : Prop := fnExactHardOfRow.holds Tryz.pinned (OpenSpec.ofChange fnExactHardOfWrong)

/-- 'laws.FnHards': WHATEVER THE INPUT: true; the input reads as it did. -/
def fnHardsSpec : ChangeSpec := { name := "fnHards", fn := fun _ => fun
  | [d] => { results := [.lit (.bool true)], args := [d] }
  | _ => none }
def fnHardsRow : OpenClaim := { program := "ytpcdhadfpeojkaagreat", sum := "914fd7915f5bfb16ca3e1e66378db4e500da686449d1209e9caf15d8b9c48e42", func := "loop.example/g00393/laws.FnHards", spec := "fnHards", unfollowed := true, recurses := true, apart := false }
def FnHardsSaid : Prop := fnHardsRow.holds Tryz.pinned (OpenSpec.ofChange fnHardsSpec)

/-- ITS FALSE NEIGHBOUR: 'it returns false'. Refute it at one input. -/
def fnHardsWrong : ChangeSpec := { name := "fnHards", fn := fun _ => fun
  | [d] => { results := [.lit (.bool false)], args := [d] }
  | _ => none }
def FnHardsWrongFalsely : Prop := fnHardsRow.holds Tryz.pinned (OpenSpec.ofChange fnHardsWrong)

/- THE SECOND FORM. 'bulk': how many values and letters a reading holds, each counted each time it is reached (what is shared counts as often as it is met; a slice's spare places count too). A statement '..UptoSaid' is the law's where the arguments, and the package variables that the reading takes, are together of bulk at most 1048576: NARROWER than '..Said'. Prove '..Said' where nothing that the law and all that it calls make is longer than what came in: it says more and counts as full. Else prove '..UptoSaid'. A law counts once. -/
mutual
def uptoBulk {H : Type} : DataW H → Nat
  | .lit (.string bytes) => bytes.length + 1
  | .lit _ => 1
  | .nil => 1
  | .ptr d => uptoBulk d + 1
  | .slice elems spare => uptoBulkAll elems + uptoBulkAll spare + 1
  | .agg parts => uptoBulkAll parts + 1
  | .iface _ d => uptoBulk d + 1
  | .map entries => uptoBulkEntries entries + 1
  | .held _ => 1
def uptoBulkAll {H : Type} : List (DataW H) → Nat
  | [] => 0
  | d :: r => uptoBulk d + uptoBulkAll r
def uptoBulkEntries {H : Type} : List (Lit × DataW H) → Nat
  | [] => 0
  | x :: r => uptoBulkEntry x + uptoBulkEntries r
def uptoBulkEntry {H : Type} : Lit × DataW H → Nat
  | (.string bytes, d) => bytes.length + uptoBulk d + 1
  | (_, d) => uptoBulk d + 1
 end
def uptoSmall : (H : Type) → List (DataW H) → Bool := fun _ ds => decide (uptoBulkAll ds ≤ 1048576)
def OpenSpec.upto (s : _root_.Go.ChangeSpec) : _root_.Go.OpenSpec := { _root_.Go.OpenSpec.ofChange s with cond := some uptoSmall }

/-- 'laws.FnReadsStay', WHERE WHAT IT READS IS OF BULK AT MOST 1048576: true; the input reads as it did. -/
def fnReadsStayUptoRow : OpenClaim := { program := "ytpcdhadfpeojkaagreat", sum := "914fd7915f5bfb16ca3e1e66378db4e500da686449d1209e9caf15d8b9c48e42", func := "loop.example/g00393/laws.FnReadsStay", spec := "fnReadsStay", inPlace := ["slices.overlaps[int]"], unfollowed := true, recurses := true, apart := false, narrowed := true }
def FnReadsStayUptoSaid : Prop := fnReadsStayUptoRow.holds Tryz.pinned (OpenSpec.upto fnReadsStaySpec)

/-- 'laws.FnTorn', WHERE WHAT IT READS IS OF BULK AT MOST 1048576: true; the input reads as it did. -/
def fnTornUptoRow : OpenClaim := { program := "ytpcdhadfpeojkaagreat", sum := "914fd7915f5bfb16ca3e1e66378db4e500da686449d1209e9caf15d8b9c48e42", func := "loop.example/g00393/laws.FnTorn", spec := "fnTorn", unfollowed := true, recurses := true, apart := false, narrowed := true }
def FnTornUptoSaid : Prop := fnTornUptoRow.holds Tryz.pinned (OpenSpec.upto fnTornSpec)

/-- 'laws.FnNotes', WHERE WHAT IT READS IS OF BULK AT MOST 1048576: true; the input reads as it did. -/
def fnNotesUptoRow : OpenClaim := { program := "ytpcdhadfpeojkaagreat", sum := "914fd7915f5bfb16ca3e1e66378db4e500da686449d1209e9caf15d8b9c48e42", func := "loop.example/g00393/laws.FnNotes", spec := "fnNotes", unfollowed := true, recurses := true, apart := false, narrowed := true }
def FnNotesUptoSaid : Prop := fnNotesUptoRow.holds Tryz.pinned (OpenSpec.upto fnNotesSpec)

/-- 'laws.FnKeeper', WHERE WHAT IT READS IS OF BULK AT MOST 1048576: true; the input reads as it did. -/
def fnKeeperUptoRow : OpenClaim := { program := "ytpcdhadfpeojkaagreat", sum := "914fd7915f5bfb16ca3e1e66378db4e500da686449d1209e9caf15d8b9c48e42", func := "loop.example/g00393/laws.FnKeeper", spec := "fnKeeper", inPlace := ["slices.overlaps[int]"], unfollowed := true, recurses := true, apart := false, narrowed := true }
def FnKeeperUptoSaid : Prop := fnKeeperUptoRow.holds Tryz.pinned (OpenSpec.upto fnKeeperSpec)

/-- 'laws.FnExactPeerNew', WHERE WHAT IT READS IS OF BULK AT MOST 1048576: true; the input reads as it did. -/
def fnExactPeerNewUptoRow : OpenClaim := { program := "ytpcdhadfpeojkaagreat", sum := "914fd7915f5bfb16ca3e1e66378db4e500da686449d1209e9caf15d8b9c48e42", func := "loop.example/g00393/laws.FnExactPeerNew", spec := "fnExactPeerNew", unfollowed := true, recurses := true, apart := false, narrowed := true }
def FnExactPeerNewUptoSaid : Prop := fnExactPeerNewUptoRow.holds Tryz.pinned (OpenSpec.upto fnExactPeerNewSpec)

/-- 'laws.FnExactTell', WHERE WHAT IT READS IS OF BULK AT MOST 1048576: true; the input reads as it did. -/
def fnExactTellUptoRow : OpenClaim := { program := "ytpcdhadfpeojkaagreat", sum := "914fd7915f5bfb16ca3e1e66378db4e500da686449d1209e9caf15d8b9c48e42", func := "loop.example/g00393/laws.FnExactTell", spec := "fnExactTell", apart := false, narrowed := true }
def FnExactTellUptoSaid : Prop := fnExactTellUptoRow.holds Tryz.pinned (OpenSpec.upto fnExactTellSpec)

/-- 'laws.FnExactKeepAll', WHERE WHAT IT READS IS OF BULK AT MOST 1048576: true; the input reads as it did. -/
def fnExactKeepAllUptoRow : OpenClaim := { program := "ytpcdhadfpeojkaagreat", sum := "914fd7915f5bfb16ca3e1e66378db4e500da686449d1209e9caf15d8b9c48e42", func := "loop.example/g00393/laws.FnExactKeepAll", spec := "fnExactKeepAll", inPlace := ["slices.overlaps[int]"], unfollowed := true, recurses := true, apart := false, narrowed := true }
def FnExactKeepAllUptoSaid : Prop := fnExactKeepAllUptoRow.holds Tryz.pinned (OpenSpec.upto fnExactKeepAllSpec)

/-- 'laws.FnExactHardOf', WHERE WHAT IT READS IS OF BULK AT MOST 1048576: true; the input reads as it did. -/
def fnExactHardOfUptoRow : OpenClaim := { program := "ytpcdhadfpeojkaagreat", sum := "914fd7915f5bfb16ca3e1e66378db4e500da686449d1209e9caf15d8b9c48e42", func := "loop.example/g00393/laws.FnExactHardOf", spec := "fnExactHardOf", unfollowed := true, recurses := true, apart := false, narrowed := true }
def FnExactHardOfUptoSaid : Prop := fnExactHardOfUptoRow.holds Tryz.pinned (OpenSpec.upto fnExactHardOfSpec)

/-- 'laws.FnHards', WHERE WHAT IT READS IS OF BULK AT MOST 1048576: true; the input reads as it did. -/
def fnHardsUptoRow : OpenClaim := { program := "ytpcdhadfpeojkaagreat", sum := "914fd7915f5bfb16ca3e1e66378db4e500da686449d1209e9caf15d8b9c48e42", func := "loop.example/g00393/laws.FnHards", spec := "fnHards", unfollowed := true, recurses := true, apart := false, narrowed := true }
def FnHardsUptoSaid : Prop := fnHardsUptoRow.holds Tryz.pinned (OpenSpec.upto fnHardsSpec)

end Rows
end Go.Proofs.YtpcdhadfpeojkaaGreat
