/-
  No cell of these rows narrows 'for every input' (looked for: loops, veiled, ifaces, maps, wideKeys, modest, calm, conditions, laid).
  DERIVED. THE GIVEN ROWS OF THIS SEAT. 12 by the template 'for every input the law returns true; each argument reads behind the call as it read before'; 0 by the template 'total and deterministic' (their statements: YtdgpjdedpkpfhaaTotals.lean).
  GIVEN WITH THE SEED: the statements are not yours to turn. If you find one false, say at which input.
  Laid BY PROGRAM, IN A SANDBOX (cutbox-rows.mjs): the forced cells as the released guide's own fill.sh prints them over the translation 520b415d6c1e900c… (all of the seat's roots in one cut). By AI agents, Wed Nov 11 2026. No macro, syntax, notation, axiom, sorry.
-/
import Derived.Test.YtdgpjdedpkpfhaaChecked
import GoSem.Claim
import GoSem.ClaimJoined
import GoSem.ClaimMapViews
import Derived.JoinedTies
import Derived.KernelRfl
namespace Go.Proofs.Ytdgpjdedpkpfhaa
/- THE CELL 'sum', in the pinned program and in every row, IS THE sha256 OF THE DUMP (.gsa) THAT YtdgpjdedpkpfhaaProg.lean LOADS. Nothing in Lean hashes anything: it is a label: what it is worth is what the hold of that sum in a sandbox is worth. -/
noncomputable def Try.pinned : Pinned := { name := "ytdgpjdedpkpfhaa", sum := "520b415d6c1e900c4cde16d5748783bad67fcf4f062882d1047bc25aea956104", checked := Try.checked }
namespace Rows
def none {H : Type} : Left H := { results := [], args := [] }

/-- 'laws.FnExactLastOf': WHATEVER THE INPUT: true; the input reads as it did. -/
def fnExactLastOfSpec : ChangeSpec := { name := "fnExactLastOf", fn := fun _ => fun
  | [d] => { results := [.lit (.bool true)], args := [d] }
  | _ => none }
def fnExactLastOfRow : OpenClaim := { program := "ytdgpjdedpkpfhaa", sum := "520b415d6c1e900c4cde16d5748783bad67fcf4f062882d1047bc25aea956104", func := "loop.example/g00393/laws.FnExactLastOf", spec := "fnExactLastOf", apart := false }
def FnExactLastOfSaid : Prop := fnExactLastOfRow.holds Try.pinned (OpenSpec.ofChange fnExactLastOfSpec)

/-- ITS FALSE NEIGHBOUR: 'it returns false'. Refute it at one input. -/
def fnExactLastOfWrong : ChangeSpec := { name := "fnExactLastOf", fn := fun _ => fun
  | [d] => { results := [.lit (.bool false)], args := [d] }
  | _ => none }
def FnExactLastOfWrongFalsely : Prop := fnExactLastOfRow.holds Try.pinned (OpenSpec.ofChange fnExactLastOfWrong)

/-- 'laws.FnExactNewer': WHATEVER THE INPUT: true; the input reads as it did. -/
def fnExactNewerSpec : ChangeSpec := { name := "fnExactNewer", fn := fun _ => fun
  | [d1, d2, d3] => { results := [.lit (.bool true)], args := [d1, d2, d3] }
  | _ => none }
def fnExactNewerRow : OpenClaim := { program := "ytdgpjdedpkpfhaa", sum := "520b415d6c1e900c4cde16d5748783bad67fcf4f062882d1047bc25aea956104", func := "loop.example/g00393/laws.FnExactNewer", spec := "fnExactNewer", apart := false }
def FnExactNewerSaid : Prop := fnExactNewerRow.holds Try.pinned (OpenSpec.ofChange fnExactNewerSpec)

/-- ITS FALSE NEIGHBOUR: 'it returns false'. Refute it at one input. -/
def fnExactNewerWrong : ChangeSpec := { name := "fnExactNewer", fn := fun _ => fun
  | [d1, d2, d3] => { results := [.lit (.bool false)], args := [d1, d2, d3] }
  | _ => none }
def FnExactNewerWrongFalsely : Prop := fnExactNewerRow.holds Try.pinned (OpenSpec.ofChange fnExactNewerWrong)

/-- 'laws.FnExactLogOk': WHATEVER THE INPUT: true; the input reads as it did. -/
def fnExactLogOkSpec : ChangeSpec := { name := "fnExactLogOk", fn := fun _ => fun
  | [d] => { results := [.lit (.bool true)], args := [d] }
  | _ => none }
def fnExactLogOkRow : OpenClaim := { program := "ytdgpjdedpkpfhaa", sum := "520b415d6c1e900c4cde16d5748783bad67fcf4f062882d1047bc25aea956104", func := "loop.example/g00393/laws.FnExactLogOk", spec := "fnExactLogOk", apart := false }
def FnExactLogOkSaid : Prop := fnExactLogOkRow.holds Try.pinned (OpenSpec.ofChange fnExactLogOkSpec)

/-- ITS FALSE NEIGHBOUR: 'it returns false'. Refute it at one input. -/
def fnExactLogOkWrong : ChangeSpec := { name := "fnExactLogOk", fn := fun _ => fun
  | [d] => { results := [.lit (.bool false)], args := [d] }
  | _ => none }
def FnExactLogOkWrongFalsely : Prop := fnExactLogOkRow.holds Try.pinned (OpenSpec.ofChange fnExactLogOkWrong)

/-- 'laws.FnExactNoteOk': WHATEVER THE INPUT: true; the input reads as it did. -/
def fnExactNoteOkSpec : ChangeSpec := { name := "fnExactNoteOk", fn := fun _ => fun
  | [d] => { results := [.lit (.bool true)], args := [d] }
  | _ => none }
def fnExactNoteOkRow : OpenClaim := { program := "ytdgpjdedpkpfhaa", sum := "520b415d6c1e900c4cde16d5748783bad67fcf4f062882d1047bc25aea956104", func := "loop.example/g00393/laws.FnExactNoteOk", spec := "fnExactNoteOk", unfollowed := true, recurses := true, apart := false }
def FnExactNoteOkSaid : Prop := fnExactNoteOkRow.holds Try.pinned (OpenSpec.ofChange fnExactNoteOkSpec)

/-- ITS FALSE NEIGHBOUR: 'it returns false'. Refute it at one input. -/
def fnExactNoteOkWrong : ChangeSpec := { name := "fnExactNoteOk", fn := fun _ => fun
  | [d] => { results := [.lit (.bool false)], args := [d] }
  | _ => none }
def FnExactNoteOkWrongFalsely : Prop := fnExactNoteOkRow.holds Try.pinned (OpenSpec.ofChange fnExactNoteOkWrong)

/-- 'laws.FnExactRpcOk': WHATEVER THE INPUT: true; the input reads as it did. -/
def fnExactRpcOkSpec : ChangeSpec := { name := "fnExactRpcOk", fn := fun _ => fun
  | [d1, d2] => { results := [.lit (.bool true)], args := [d1, d2] }
  | _ => none }
def fnExactRpcOkRow : OpenClaim := { program := "ytdgpjdedpkpfhaa", sum := "520b415d6c1e900c4cde16d5748783bad67fcf4f062882d1047bc25aea956104", func := "loop.example/g00393/laws.FnExactRpcOk", spec := "fnExactRpcOk", unfollowed := true, recurses := true, apart := false }
def FnExactRpcOkSaid : Prop := fnExactRpcOkRow.holds Try.pinned (OpenSpec.ofChange fnExactRpcOkSpec)

/-- ITS FALSE NEIGHBOUR: 'it returns false'. Refute it at one input. -/
def fnExactRpcOkWrong : ChangeSpec := { name := "fnExactRpcOk", fn := fun _ => fun
  | [d1, d2] => { results := [.lit (.bool false)], args := [d1, d2] }
  | _ => none }
def FnExactRpcOkWrongFalsely : Prop := fnExactRpcOkRow.holds Try.pinned (OpenSpec.ofChange fnExactRpcOkWrong)

/-- 'laws.FnExactLogCut': WHATEVER THE INPUT: true; the input reads as it did. -/
def fnExactLogCutSpec : ChangeSpec := { name := "fnExactLogCut", fn := fun _ => fun
  | [d1, d2] => { results := [.lit (.bool true)], args := [d1, d2] }
  | _ => none }
def fnExactLogCutRow : OpenClaim := { program := "ytdgpjdedpkpfhaa", sum := "520b415d6c1e900c4cde16d5748783bad67fcf4f062882d1047bc25aea956104", func := "loop.example/g00393/laws.FnExactLogCut", spec := "fnExactLogCut", apart := false }
def FnExactLogCutSaid : Prop := fnExactLogCutRow.holds Try.pinned (OpenSpec.ofChange fnExactLogCutSpec)

/-- ITS FALSE NEIGHBOUR: 'it returns false'. Refute it at one input. -/
def fnExactLogCutWrong : ChangeSpec := { name := "fnExactLogCut", fn := fun _ => fun
  | [d1, d2] => { results := [.lit (.bool false)], args := [d1, d2] }
  | _ => none }
def FnExactLogCutWrongFalsely : Prop := fnExactLogCutRow.holds Try.pinned (OpenSpec.ofChange fnExactLogCutWrong)

/-- 'laws.FnExactLogPut': WHATEVER THE INPUT: true; the input reads as it did. -/
def fnExactLogPutSpec : ChangeSpec := { name := "fnExactLogPut", fn := fun _ => fun
  | [d1, d2, d3, d4] => { results := [.lit (.bool true)], args := [d1, d2, d3, d4] }
  | _ => none }
def fnExactLogPutRow : OpenClaim := { program := "ytdgpjdedpkpfhaa", sum := "520b415d6c1e900c4cde16d5748783bad67fcf4f062882d1047bc25aea956104", func := "loop.example/g00393/laws.FnExactLogPut", spec := "fnExactLogPut", apart := false }
def FnExactLogPutSaid : Prop := fnExactLogPutRow.holds Try.pinned (OpenSpec.ofChange fnExactLogPutSpec)

/-- ITS FALSE NEIGHBOUR: 'it returns false'. Refute it at one input. -/
def fnExactLogPutWrong : ChangeSpec := { name := "fnExactLogPut", fn := fun _ => fun
  | [d1, d2, d3, d4] => { results := [.lit (.bool false)], args := [d1, d2, d3, d4] }
  | _ => none }
def FnExactLogPutWrongFalsely : Prop := fnExactLogPutRow.holds Try.pinned (OpenSpec.ofChange fnExactLogPutWrong)

/-- 'laws.FnExactNoteBytes': WHATEVER THE INPUT: true; the input reads as it did. -/
def fnExactNoteBytesSpec : ChangeSpec := { name := "fnExactNoteBytes", fn := fun _ => fun
  | [d] => { results := [.lit (.bool true)], args := [d] }
  | _ => none }
def fnExactNoteBytesRow : OpenClaim := { program := "ytdgpjdedpkpfhaa", sum := "520b415d6c1e900c4cde16d5748783bad67fcf4f062882d1047bc25aea956104", func := "loop.example/g00393/laws.FnExactNoteBytes", spec := "fnExactNoteBytes", unfollowed := true, recurses := true, apart := false }
def FnExactNoteBytesSaid : Prop := fnExactNoteBytesRow.holds Try.pinned (OpenSpec.ofChange fnExactNoteBytesSpec)

/-- ITS FALSE NEIGHBOUR: 'it returns false'. Refute it at one input. -/
def fnExactNoteBytesWrong : ChangeSpec := { name := "fnExactNoteBytes", fn := fun _ => fun
  | [d] => { results := [.lit (.bool false)], args := [d] }
  | _ => none }
def FnExactNoteBytesWrongFalsely : Prop := fnExactNoteBytesRow.holds Try.pinned (OpenSpec.ofChange fnExactNoteBytesWrong)

/-- 'laws.FnExactNoteOf': WHATEVER THE INPUT: true; the input reads as it did. -/
def fnExactNoteOfSpec : ChangeSpec := { name := "fnExactNoteOf", fn := fun _ => fun
  | [d1, d2] => { results := [.lit (.bool true)], args := [d1, d2] }
  | _ => none }
def fnExactNoteOfRow : OpenClaim := { program := "ytdgpjdedpkpfhaa", sum := "520b415d6c1e900c4cde16d5748783bad67fcf4f062882d1047bc25aea956104", func := "loop.example/g00393/laws.FnExactNoteOf", spec := "fnExactNoteOf", unfollowed := true, recurses := true, apart := false }
def FnExactNoteOfSaid : Prop := fnExactNoteOfRow.holds Try.pinned (OpenSpec.ofChange fnExactNoteOfSpec)

/-- ITS FALSE NEIGHBOUR: 'it returns false'. Refute it at one input. -/
def fnExactNoteOfWrong : ChangeSpec := { name := "fnExactNoteOf", fn := fun _ => fun
  | [d1, d2] => { results := [.lit (.bool false)], args := [d1, d2] }
  | _ => none }
def FnExactNoteOfWrongFalsely : Prop := fnExactNoteOfRow.holds Try.pinned (OpenSpec.ofChange fnExactNoteOfWrong)

/-- 'laws.FnExactNotes': WHATEVER THE INPUT: true; the input reads as it did. -/
def fnExactNotesSpec : ChangeSpec := { name := "fnExactNotes", fn := fun _ => fun
  | [d] => { results := [.lit (.bool true)], args := [d] }
  | _ => none }
def fnExactNotesRow : OpenClaim := { program := "ytdgpjdedpkpfhaa", sum := "520b415d6c1e900c4cde16d5748783bad67fcf4f062882d1047bc25aea956104", func := "loop.example/g00393/laws.FnExactNotes", spec := "fnExactNotes", unfollowed := true, recurses := true, apart := false }
def FnExactNotesSaid : Prop := fnExactNotesRow.holds Try.pinned (OpenSpec.ofChange fnExactNotesSpec)

/-- ITS FALSE NEIGHBOUR: 'it returns false'. Refute it at one input. -/
def fnExactNotesWrong : ChangeSpec := { name := "fnExactNotes", fn := fun _ => fun
  | [d] => { results := [.lit (.bool false)], args := [d] }
  | _ => none }
def FnExactNotesWrongFalsely : Prop := fnExactNotesRow.holds Try.pinned (OpenSpec.ofChange fnExactNotesWrong)

/-- 'laws.FnExactHardNew': WHATEVER THE INPUT: true; the input reads as it did. -/
def fnExactHardNewSpec : ChangeSpec := { name := "fnExactHardNew", fn := fun _ => fun
  | [d] => { results := [.lit (.bool true)], args := [d] }
  | _ => none }
def fnExactHardNewRow : OpenClaim := { program := "ytdgpjdedpkpfhaa", sum := "520b415d6c1e900c4cde16d5748783bad67fcf4f062882d1047bc25aea956104", func := "loop.example/g00393/laws.FnExactHardNew", spec := "fnExactHardNew", apart := false }
def FnExactHardNewSaid : Prop := fnExactHardNewRow.holds Try.pinned (OpenSpec.ofChange fnExactHardNewSpec)

/-- ITS FALSE NEIGHBOUR: 'it returns false'. Refute it at one input. -/
def fnExactHardNewWrong : ChangeSpec := { name := "fnExactHardNew", fn := fun _ => fun
  | [d] => { results := [.lit (.bool false)], args := [d] }
  | _ => none }
def FnExactHardNewWrongFalsely : Prop := fnExactHardNewRow.holds Try.pinned (OpenSpec.ofChange fnExactHardNewWrong)

/-- 'laws.FnExactHardOk': WHATEVER THE INPUT: true; the input reads as it did. -/
def fnExactHardOkSpec : ChangeSpec := { name := "fnExactHardOk", fn := fun _ => fun
  | [d1, d2] => { results := [.lit (.bool true)], args := [d1, d2] }
  | _ => none }
def fnExactHardOkRow : OpenClaim := { program := "ytdgpjdedpkpfhaa", sum := "520b415d6c1e900c4cde16d5748783bad67fcf4f062882d1047bc25aea956104", func := "loop.example/g00393/laws.FnExactHardOk", spec := "fnExactHardOk", unfollowed := true, recurses := true, apart := false }
def FnExactHardOkSaid : Prop := fnExactHardOkRow.holds Try.pinned (OpenSpec.ofChange fnExactHardOkSpec)

/-- ITS FALSE NEIGHBOUR: 'it returns false'. Refute it at one input. -/
def fnExactHardOkWrong : ChangeSpec := { name := "fnExactHardOk", fn := fun _ => fun
  | [d1, d2] => { results := [.lit (.bool false)], args := [d1, d2] }
  | _ => none }
def FnExactHardOkWrongFalsely : Prop := fnExactHardOkRow.holds Try.pinned (OpenSpec.ofChange fnExactHardOkWrong)

/- THE SECOND FORM. 'bulk': how many values and letters a reading holds, each counted each time it is reached (what is shared counts as often as it is met; a slice's spare places count too). A statement '..UptoSaid' is the law's where the arguments, and the package variables that the reading takes, are together of bulk at most 1048576: NARROWER than '..Said'. Prove '..Said' where nothing that the law and all that it calls make is longer than what came in: it says more and counts as full. Else prove '..UptoSaid'. A law counts once. -/
mutual
def uptoBulk {H : Type} : DataW H → Nat
  | .lit (.string bytes) => bytes.length + 1
  | .lit _ => 1
  | .nil => 1
  | .ptr d => uptoBulk d + 1
  | .slice elems spare => uptoBulkAll elems + uptoBulkAll spare + 1
  | .agg parts => uptoBulkAll parts + 1
  | .iface _ d => uptoBulk d + 1
  | .map entries => uptoBulkEntries entries + 1
  | .held _ => 1
def uptoBulkAll {H : Type} : List (DataW H) → Nat
  | [] => 0
  | d :: r => uptoBulk d + uptoBulkAll r
def uptoBulkEntries {H : Type} : List (Lit × DataW H) → Nat
  | [] => 0
  | x :: r => uptoBulkEntry x + uptoBulkEntries r
def uptoBulkEntry {H : Type} : Lit × DataW H → Nat
  | (.string bytes, d) => bytes.length + uptoBulk d + 1
  | (_, d) => uptoBulk d + 1
 end
def uptoSmall : (H : Type) → List (DataW H) → Bool := fun _ ds => decide (uptoBulkAll ds ≤ 1048576)
def OpenSpec.upto (s : _root_.Go.ChangeSpec) : _root_.Go.OpenSpec := { _root_.Go.OpenSpec.ofChange s with cond := some uptoSmall }

/-- 'laws.FnExactLastOf', WHERE WHAT IT READS IS OF BULK AT MOST 1048576: true; the input reads as it did. -/
def fnExactLastOfUptoRow : OpenClaim := { program := "ytdgpjdedpkpfhaa", sum := "520b415d6c1e900c4cde16d5748783bad67fcf4f062882d1047bc25aea956104", func := "loop.example/g00393/laws.FnExactLastOf", spec := "fnExactLastOf", apart := false, narrowed := true }
def FnExactLastOfUptoSaid : Prop := fnExactLastOfUptoRow.holds Try.pinned (OpenSpec.upto fnExactLastOfSpec)

/-- 'laws.FnExactNewer', WHERE WHAT IT READS IS OF BULK AT MOST 1048576: true; the input reads as it did. -/
def fnExactNewerUptoRow : OpenClaim := { program := "ytdgpjdedpkpfhaa", sum := "520b415d6c1e900c4cde16d5748783bad67fcf4f062882d1047bc25aea956104", func := "loop.example/g00393/laws.FnExactNewer", spec := "fnExactNewer", apart := false, narrowed := true }
def FnExactNewerUptoSaid : Prop := fnExactNewerUptoRow.holds Try.pinned (OpenSpec.upto fnExactNewerSpec)

/-- 'laws.FnExactLogOk', WHERE WHAT IT READS IS OF BULK AT MOST 1048576: true; the input reads as it did. -/
def fnExactLogOkUptoRow : OpenClaim := { program := "ytdgpjdedpkpfhaa", sum := "520b415d6c1e900c4cde16d5748783bad67fcf4f062882d1047bc25aea956104", func := "loop.example/g00393/laws.FnExactLogOk", spec := "fnExactLogOk", apart := false, narrowed := true }
def FnExactLogOkUptoSaid : Prop := fnExactLogOkUptoRow.holds Try.pinned (OpenSpec.upto fnExactLogOkSpec)

/-- 'laws.FnExactNoteOk', WHERE WHAT IT READS IS OF BULK AT MOST 1048576: true; the input reads as it did. -/
def fnExactNoteOkUptoRow : OpenClaim := { program := "ytdgpjdedpkpfhaa", sum := "520b415d6c1e900c4cde16d5748783bad67fcf4f062882d1047bc25aea956104", func := "loop.example/g00393/laws.FnExactNoteOk", spec := "fnExactNoteOk", unfollowed := true, recurses := true, apart := false, narrowed := true }
def FnExactNoteOkUptoSaid : Prop := fnExactNoteOkUptoRow.holds Try.pinned (OpenSpec.upto fnExactNoteOkSpec)

/-- 'laws.FnExactRpcOk', WHERE WHAT IT READS IS OF BULK AT MOST 1048576: true; the input reads as it did. -/
def fnExactRpcOkUptoRow : OpenClaim := { program := "ytdgpjdedpkpfhaa", sum := "520b415d6c1e900c4cde16d5748783bad67fcf4f062882d1047bc25aea956104", func := "loop.example/g00393/laws.FnExactRpcOk", spec := "fnExactRpcOk", unfollowed := true, recurses := true, apart := false, narrowed := true }
def FnExactRpcOkUptoSaid : Prop := fnExactRpcOkUptoRow.holds Try.pinned (OpenSpec.upto fnExactRpcOkSpec)

/-- 'laws.FnExactLogCut', WHERE WHAT IT READS IS OF BULK AT MOST 1048576: true; the input reads as it did. -/
def fnExactLogCutUptoRow : OpenClaim := { program := "ytdgpjdedpkpfhaa", sum := "520b415d6c1e900c4cde16d5748783bad67fcf4f062882d1047bc25aea956104", func := "loop.example/g00393/laws.FnExactLogCut", spec := "fnExactLogCut", apart := false, narrowed := true }
def FnExactLogCutUptoSaid : Prop := fnExactLogCutUptoRow.holds Try.pinned (OpenSpec.upto fnExactLogCutSpec)

/-- 'laws.FnExactLogPut', WHERE WHAT IT READS IS OF BULK AT MOST 1048576: true; the input reads as it did. -/
def fnExactLogPutUptoRow : OpenClaim := { program := "ytdgpjdedpkpfhaa", sum := "520b415d6c1e900c4cde16d5748783bad67fcf4f062882d1047bc25aea956104", func := "loop.example/g00393/laws.FnExactLogPut", spec := "fnExactLogPut", apart := false, narrowed := true }
def FnExactLogPutUptoSaid : Prop := fnExactLogPutUptoRow.holds Try.pinned (OpenSpec.upto fnExactLogPutSpec)

/-- 'laws.FnExactNoteBytes', WHERE WHAT IT READS IS OF BULK AT MOST 1048576: true; the input reads as it did. -/
def fnExactNoteBytesUptoRow : OpenClaim := { program := "ytdgpjdedpkpfhaa", sum := "520b415d6c1e900c4cde16d5748783bad67fcf4f062882d1047bc25aea956104", func := "loop.example/g00393/laws.FnExactNoteBytes", spec := "fnExactNoteBytes", unfollowed := true, recurses := true, apart := false, narrowed := true }
def FnExactNoteBytesUptoSaid : Prop := fnExactNoteBytesUptoRow.holds Try.pinned (OpenSpec.upto fnExactNoteBytesSpec)

/-- 'laws.FnExactNoteOf', WHERE WHAT IT READS IS OF BULK AT MOST 1048576: true; the input reads as it did. -/
def fnExactNoteOfUptoRow : OpenClaim := { program := "ytdgpjdedpkpfhaa", sum := "520b415d6c1e900c4cde16d5748783bad67fcf4f062882d1047bc25aea956104", func := "loop.example/g00393/laws.FnExactNoteOf", spec := "fnExactNoteOf", unfollowed := true, recurses := true, apart := false, narrowed := true }
def FnExactNoteOfUptoSaid : Prop := fnExactNoteOfUptoRow.holds Try.pinned (OpenSpec.upto fnExactNoteOfSpec)

/-- 'laws.FnExactNotes', WHERE WHAT IT READS IS OF BULK AT MOST 1048576: true; the input reads as it did. -/
def fnExactNotesUptoRow : OpenClaim := { program := "ytdgpjdedpkpfhaa", sum := "520b415d6c1e900c4cde16d5748783bad67fcf4f062882d1047bc25aea956104", func := "loop.example/g00393/laws.FnExactNotes", spec := "fnExactNotes", unfollowed := true, recurses := true, apart := false, narrowed := true }
def FnExactNotesUptoSaid : Prop := fnExactNotesUptoRow.holds Try.pinned (OpenSpec.upto fnExactNotesSpec)

/-- 'laws.FnExactHardNew', WHERE WHAT IT READS IS OF BULK AT MOST 1048576: true; the input reads as it did. -/
def fnExactHardNewUptoRow : OpenClaim := { program := "ytdgpjdedpkpfhaa", sum := "520b415d6c1e900c4cde16d5748783bad67fcf4f062882d1047bc25aea956104", func := "loop.example/g00393/laws.FnExactHardNew", spec := "fnExactHardNew", apart := false, narrowed := true }
def FnExactHardNewUptoSaid : Prop := fnExactHardNewUptoRow.holds Try.pinned (OpenSpec.upto fnExactHardNewSpec)

/-- 'laws.FnExactHardOk', WHERE WHAT IT READS IS OF BULK AT MOST 1048576: true; the input reads as it did. -/
def fnExactHardOkUptoRow : OpenClaim := { program := "ytdgpjdedpkpfhaa", sum := "520b415d6c1e900c4cde16d5748783bad67fcf4f062882d1047bc25aea956104", func := "loop.example/g00393/laws.FnExactHardOk", spec := "fnExactHardOk", unfollowed := true, recurses := true, apart := false, narrowed := true }
def FnExactHardOkUptoSaid : Prop := fnExactHardOkUptoRow.holds Try.pinned (OpenSpec.upto fnExactHardOkSpec)

end Rows
end Go.Proofs.Ytdgpjdedpkpfhaa
