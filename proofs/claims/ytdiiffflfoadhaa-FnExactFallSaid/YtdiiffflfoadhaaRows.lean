/-
  No cell of these rows narrows 'for every input' (looked for: loops, veiled, ifaces, maps, wideKeys, modest, calm, conditions, laid).
  DERIVED. THE GIVEN ROWS OF THIS SEAT. 5 by the template 'for every input the law returns true; each argument reads behind the call as it read before'; 0 by the template 'total and deterministic' (their statements: YtdiiffflfoadhaaTotals.lean).
  GIVEN WITH THE SEED: the statements are not yours to turn. If you find one false, say at which input.
  Laid BY PROGRAM, IN A SANDBOX (cutbox-rows.mjs): the forced cells as the released guide's own fill.sh prints them over the translation eeb7cd881226a301… (all of the seat's roots in one cut). By AI agents, Wed Nov 11 2026. No macro, syntax, notation, axiom, sorry.
-/
import Derived.Test.YtdiiffflfoadhaaChecked
import GoSem.Claim
import GoSem.ClaimJoined
import GoSem.ClaimMapViews
import Derived.JoinedTies
import Derived.KernelRfl
namespace Go.Proofs.Ytdiiffflfoadhaa
/- THE CELL 'sum', in the pinned program and in every row, IS THE sha256 OF THE DUMP (.gsa) THAT YtdiiffflfoadhaaProg.lean LOADS. Nothing in Lean hashes anything: it is a label: what it is worth is what the hold of that sum in a sandbox is worth. -/
noncomputable def Try.pinned : Pinned := { name := "ytdiiffflfoadhaa", sum := "eeb7cd881226a301b3af11829844f87d992df8b51c882ceabe196b6df097d4fe", checked := Try.checked }
namespace Rows
def none {H : Type} : Left H := { results := [], args := [] }

/-- 'laws.FnExactSumOf': WHATEVER THE INPUT: true; the input reads as it did. -/
def fnExactSumOfSpec : ChangeSpec := { name := "fnExactSumOf", fn := fun _ => fun
  | [d] => { results := [.lit (.bool true)], args := [d] }
  | _ => none }
def fnExactSumOfRow : OpenClaim := { program := "ytdiiffflfoadhaa", sum := "eeb7cd881226a301b3af11829844f87d992df8b51c882ceabe196b6df097d4fe", func := "loop.example/g00393/laws.FnExactSumOf", spec := "fnExactSumOf", apart := false }
def FnExactSumOfSaid : Prop := fnExactSumOfRow.holds Try.pinned (OpenSpec.ofChange fnExactSumOfSpec)

/-- ITS FALSE NEIGHBOUR: 'it returns false'. Refute it at one input. -/
def fnExactSumOfWrong : ChangeSpec := { name := "fnExactSumOf", fn := fun _ => fun
  | [d] => { results := [.lit (.bool false)], args := [d] }
  | _ => none }
def FnExactSumOfWrongFalsely : Prop := fnExactSumOfRow.holds Try.pinned (OpenSpec.ofChange fnExactSumOfWrong)

/-- 'laws.FnExactDiskOk': WHATEVER THE INPUT: true; the input reads as it did. -/
def fnExactDiskOkSpec : ChangeSpec := { name := "fnExactDiskOk", fn := fun _ => fun
  | [d] => { results := [.lit (.bool true)], args := [d] }
  | _ => none }
def fnExactDiskOkRow : OpenClaim := { program := "ytdiiffflfoadhaa", sum := "eeb7cd881226a301b3af11829844f87d992df8b51c882ceabe196b6df097d4fe", func := "loop.example/g00393/laws.FnExactDiskOk", spec := "fnExactDiskOk", apart := false }
def FnExactDiskOkSaid : Prop := fnExactDiskOkRow.holds Try.pinned (OpenSpec.ofChange fnExactDiskOkSpec)

/-- ITS FALSE NEIGHBOUR: 'it returns false'. Refute it at one input. -/
def fnExactDiskOkWrong : ChangeSpec := { name := "fnExactDiskOk", fn := fun _ => fun
  | [d] => { results := [.lit (.bool false)], args := [d] }
  | _ => none }
def FnExactDiskOkWrongFalsely : Prop := fnExactDiskOkRow.holds Try.pinned (OpenSpec.ofChange fnExactDiskOkWrong)

/-- 'laws.FnExactSync': WHATEVER THE INPUT: true; the input reads as it did. -/
def fnExactSyncSpec : ChangeSpec := { name := "fnExactSync", fn := fun _ => fun
  | [d] => { results := [.lit (.bool true)], args := [d] }
  | _ => none }
def fnExactSyncRow : OpenClaim := { program := "ytdiiffflfoadhaa", sum := "eeb7cd881226a301b3af11829844f87d992df8b51c882ceabe196b6df097d4fe", func := "loop.example/g00393/laws.FnExactSync", spec := "fnExactSync", apart := false }
def FnExactSyncSaid : Prop := fnExactSyncRow.holds Try.pinned (OpenSpec.ofChange fnExactSyncSpec)

/-- ITS FALSE NEIGHBOUR: 'it returns false'. Refute it at one input. -/
def fnExactSyncWrong : ChangeSpec := { name := "fnExactSync", fn := fun _ => fun
  | [d] => { results := [.lit (.bool false)], args := [d] }
  | _ => none }
def FnExactSyncWrongFalsely : Prop := fnExactSyncRow.holds Try.pinned (OpenSpec.ofChange fnExactSyncWrong)

/-- 'laws.FnExactAppend': WHATEVER THE INPUT: true; the input reads as it did. -/
def fnExactAppendSpec : ChangeSpec := { name := "fnExactAppend", fn := fun _ => fun
  | [d1, d2] => { results := [.lit (.bool true)], args := [d1, d2] }
  | _ => none }
def fnExactAppendRow : OpenClaim := { program := "ytdiiffflfoadhaa", sum := "eeb7cd881226a301b3af11829844f87d992df8b51c882ceabe196b6df097d4fe", func := "loop.example/g00393/laws.FnExactAppend", spec := "fnExactAppend", apart := false }
def FnExactAppendSaid : Prop := fnExactAppendRow.holds Try.pinned (OpenSpec.ofChange fnExactAppendSpec)

/-- ITS FALSE NEIGHBOUR: 'it returns false'. Refute it at one input. -/
def fnExactAppendWrong : ChangeSpec := { name := "fnExactAppend", fn := fun _ => fun
  | [d1, d2] => { results := [.lit (.bool false)], args := [d1, d2] }
  | _ => none }
def FnExactAppendWrongFalsely : Prop := fnExactAppendRow.holds Try.pinned (OpenSpec.ofChange fnExactAppendWrong)

/-- 'laws.FnExactFall': WHATEVER THE INPUT: true; the input reads as it did. -/
def fnExactFallSpec : ChangeSpec := { name := "fnExactFall", fn := fun _ => fun
  | [d1, d2] => { results := [.lit (.bool true)], args := [d1, d2] }
  | _ => none }
def fnExactFallRow : OpenClaim := { program := "ytdiiffflfoadhaa", sum := "eeb7cd881226a301b3af11829844f87d992df8b51c882ceabe196b6df097d4fe", func := "loop.example/g00393/laws.FnExactFall", spec := "fnExactFall", apart := false }
def FnExactFallSaid : Prop := fnExactFallRow.holds Try.pinned (OpenSpec.ofChange fnExactFallSpec)

/-- ITS FALSE NEIGHBOUR: 'it returns false'. Refute it at one input. -/
def fnExactFallWrong : ChangeSpec := { name := "fnExactFall", fn := fun _ => fun
  | [d1, d2] => { results := [.lit (.bool false)], args := [d1, d2] }
  | _ => none }
def FnExactFallWrongFalsely : Prop := fnExactFallRow.holds Try.pinned (OpenSpec.ofChange fnExactFallWrong)

/- THE SECOND FORM. 'bulk': how many values and letters a reading holds, each counted each time it is reached (what is shared counts as often as it is met; a slice's spare places count too). A statement '..UptoSaid' is the law's where the arguments, and the package variables that the reading takes, are together of bulk at most 1048576: NARROWER than '..Said'. Prove '..Said' where nothing that the law and all that it calls make is longer than what came in: it says more and counts as full. Else prove '..UptoSaid'. A law counts once. -/
mutual
def uptoBulk {H : Type} : DataW H → Nat
  | .lit (.string bytes) => bytes.length + 1
  | .lit _ => 1
  | .nil => 1
  | .ptr d => uptoBulk d + 1
  | .slice elems spare => uptoBulkAll elems + uptoBulkAll spare + 1
  | .agg parts => uptoBulkAll parts + 1
  | .iface _ d => uptoBulk d + 1
  | .map entries => uptoBulkEntries entries + 1
  | .held _ => 1
def uptoBulkAll {H : Type} : List (DataW H) → Nat
  | [] => 0
  | d :: r => uptoBulk d + uptoBulkAll r
def uptoBulkEntries {H : Type} : List (Lit × DataW H) → Nat
  | [] => 0
  | x :: r => uptoBulkEntry x + uptoBulkEntries r
def uptoBulkEntry {H : Type} : Lit × DataW H → Nat
  | (.string bytes, d) => bytes.length + uptoBulk d + 1
  | (_, d) => uptoBulk d + 1
 end
def uptoSmall : (H : Type) → List (DataW H) → Bool := fun _ ds => decide (uptoBulkAll ds ≤ 1048576)
def OpenSpec.upto (s : _root_.Go.ChangeSpec) : _root_.Go.OpenSpec := { _root_.Go.OpenSpec.ofChange s with cond := some uptoSmall }

/-- 'laws.FnExactSumOf', WHERE WHAT IT READS IS OF BULK AT MOST 1048576: true; the input reads as it did. -/
def fnExactSumOfUptoRow : OpenClaim := { program := "ytdiiffflfoadhaa", sum := "eeb7cd881226a301b3af11829844f87d992df8b51c882ceabe196b6df097d4fe", func := "loop.example/g00393/laws.FnExactSumOf", spec := "fnExactSumOf", apart := false, narrowed := true }
def FnExactSumOfUptoSaid : Prop := fnExactSumOfUptoRow.holds Try.pinned (OpenSpec.upto fnExactSumOfSpec)

/-- 'laws.FnExactDiskOk', WHERE WHAT IT READS IS OF BULK AT MOST 1048576: true; the input reads as it did. -/
def fnExactDiskOkUptoRow : OpenClaim := { program := "ytdiiffflfoadhaa", sum := "eeb7cd881226a301b3af11829844f87d992df8b51c882ceabe196b6df097d4fe", func := "loop.example/g00393/laws.FnExactDiskOk", spec := "fnExactDiskOk", apart := false, narrowed := true }
def FnExactDiskOkUptoSaid : Prop := fnExactDiskOkUptoRow.holds Try.pinned (OpenSpec.upto fnExactDiskOkSpec)

/-- 'laws.FnExactSync', WHERE WHAT IT READS IS OF BULK AT MOST 1048576: true; the input reads as it did. -/
def fnExactSyncUptoRow : OpenClaim := { program := "ytdiiffflfoadhaa", sum := "eeb7cd881226a301b3af11829844f87d992df8b51c882ceabe196b6df097d4fe", func := "loop.example/g00393/laws.FnExactSync", spec := "fnExactSync", apart := false, narrowed := true }
def FnExactSyncUptoSaid : Prop := fnExactSyncUptoRow.holds Try.pinned (OpenSpec.upto fnExactSyncSpec)

/-- 'laws.FnExactAppend', WHERE WHAT IT READS IS OF BULK AT MOST 1048576: true; the input reads as it did. -/
def fnExactAppendUptoRow : OpenClaim := { program := "ytdiiffflfoadhaa", sum := "eeb7cd881226a301b3af11829844f87d992df8b51c882ceabe196b6df097d4fe", func := "loop.example/g00393/laws.FnExactAppend", spec := "fnExactAppend", apart := false, narrowed := true }
def FnExactAppendUptoSaid : Prop := fnExactAppendUptoRow.holds Try.pinned (OpenSpec.upto fnExactAppendSpec)

/-- 'laws.FnExactFall', WHERE WHAT IT READS IS OF BULK AT MOST 1048576: true; the input reads as it did. -/
def fnExactFallUptoRow : OpenClaim := { program := "ytdiiffflfoadhaa", sum := "eeb7cd881226a301b3af11829844f87d992df8b51c882ceabe196b6df097d4fe", func := "loop.example/g00393/laws.FnExactFall", spec := "fnExactFall", apart := false, narrowed := true }
def FnExactFallUptoSaid : Prop := fnExactFallUptoRow.holds Try.pinned (OpenSpec.upto fnExactFallSpec)

end Rows
end Go.Proofs.Ytdiiffflfoadhaa
