import Derived.Test.YtpcdhadfpeojkaaS2b
set_option linter.unusedVariables false
set_option maxRecDepth 20000
set_option maxHeartbeats 4000000
namespace Go.Proofs.Ytpcdhadfpeojkaa.fnDisks
open Go Go.Aw Go.Aw.Pl
theorem own : ownKnob Try.prog.godebug = none := by kernel_rfl
theorem laidOut : laidOutB Try.prog = true := by kernel_rfl
theorem ca {a b : Bool} (h1 : a = true) (h2 : b = true) : (a && b) = true := by rw [h1, h2]; rfl
theorem lifted (os : Os) (started : os.Started) (H : Type) (enc : TypeId × Value → H) :
    ReturnsInHanded {} Try.checked os 3 .any (Rows.fnDisksSpec.pre6 enc Try.prog Try.f3 Rows.fnDisksRow.domain false) (Rows.fnDisksSpec.post enc Try.prog Try.f3 false true false false) :=
  law_lifted (C := Try.checked) (Ts := [(.sl 5 (.int .u8))]) (g := laws_FnDisks.fs.fn) started own laidOut (by kernel_rfl) Try.func3 laws_FnDisks.sound (fun _ _ => rfl) (by kernel_rfl) rfl Try.underlying4 rfl
    (fun _ ds h => match ds, h with
      | [_], _ => ⟨rfl, rfl, rfl⟩)
    (ChangeSpec.witness6 (enc := enc) (C := Try.checked) false ⟨#[], #[(.slice none 0 0)], []⟩ 24 (by kernel_rfl) (by kernel_rfl) (by kernel_rfl) (by kernel_rfl))
theorem closed : joinedFacts Try.prog 3 Try.f3 Rows.fnDisksSpec Rows.fnDisksRow = true := by
  unfold joinedFacts
  refine ca (ca (ca (ca (ca (ca (ca (ca (ca (ca (ca (ca (ca (ca (ca (ca (ca (ca (ca (ca (ca (ca (ca (ca (ca (ca (ca (ca (ca (ca (ca ?_ ?_) ?_) ?_) ?_) ?_) ?_) ?_) ?_) ?_) ?_) ?_) ?_) ?_) ?_) ?_) ?_) ?_) ?_) ?_) ?_) ?_) ?_) ?_) ?_) ?_) ?_) ?_) ?_) ?_) ?_) ?_
  all_goals as_aux_lemma => kernel_rfl
theorem named : Try.prog.funcNamed Rows.fnDisksRow.func = some 3 := by kernel_rfl
theorem inst : Try.f3.isInstance Try.prog Rows.fnDisksRow.origin Rows.fnDisksRow.targs := of_decide_eq_true (by kernel_rfl)
theorem wrap : Try.f3.isWrapper Try.prog Rows.fnDisksRow.wrapper Rows.fnDisksRow.mainSum := by unfold Func.isWrapper; first | (rw [if_pos (by decide +kernel)]; kernel_rfl) | (rw [if_neg (by decide +kernel)]; exact ⟨rfl, rfl⟩)
theorem over : Rows.fnDisksRow.holds Try.pinned (OpenSpec.ofChange Rows.fnDisksSpec) :=
  OpenClaim.holds_of_wide 3 Try.f3 rfl rfl rfl rfl rfl rfl rfl ⟨rfl, rfl, rfl, rfl, rfl⟩ rfl rfl rfl rfl rfl named Try.func3 closed inst wrap
    (fun os started H enc _ => lifted os started H enc)
theorem proved : Rows.FnDisksSaid := over
end Go.Proofs.Ytpcdhadfpeojkaa.fnDisks
