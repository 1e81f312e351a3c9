import Derived.Test.YtpcdhadfpeojkaaGreatS3b
set_option linter.unusedVariables false
set_option maxRecDepth 20000
set_option maxHeartbeats 4000000
namespace Go.Proofs.YtpcdhadfpeojkaaGreat.fnTorn
open Go Go.Aw Go.Aw.Pl
theorem own : ownKnob Tryz.prog.godebug = none := by kernel_rfl
theorem laidOut : laidOutB Tryz.prog = true := by kernel_rfl
theorem ca {a b : Bool} (h1 : a = true) (h2 : b = true) : (a && b) = true := by rw [h1, h2]; rfl
theorem lifted (os : Os) (started : os.Started) (H : Type) (enc : TypeId × Value → H) :
    ReturnsInHanded {} Tryz.checked os 4 .any (Rows.fnTornSpec.pre6 enc Tryz.prog Tryz.f4 Rows.fnTornRow.domain false) (Rows.fnTornSpec.post enc Tryz.prog Tryz.f4 false true false false) :=
  law_lifted (C := Tryz.checked) (Ts := [(.sl 5 (.int .u8))]) (g := laws_FnTorn.fs.fn) started own laidOut (by kernel_rfl) Tryz.func4 laws_FnTorn.sound (fun _ _ => rfl) (by kernel_rfl) rfl Tryz.underlying4 rfl
    (fun _ ds h => match ds, h with
      | [_], _ => ⟨rfl, rfl, rfl⟩)
    (ChangeSpec.witness6 (enc := enc) (C := Tryz.checked) false ⟨#[], #[(.slice none 0 0)], []⟩ 24 (by kernel_rfl) (by kernel_rfl) (by kernel_rfl) (by kernel_rfl))
theorem closed : joinedFacts Tryz.prog 4 Tryz.f4 Rows.fnTornSpec Rows.fnTornRow = true := by
  unfold joinedFacts
  refine ca (ca (ca (ca (ca (ca (ca (ca (ca (ca (ca (ca (ca (ca (ca (ca (ca (ca (ca (ca (ca (ca (ca (ca (ca (ca (ca (ca (ca (ca (ca ?_ ?_) ?_) ?_) ?_) ?_) ?_) ?_) ?_) ?_) ?_) ?_) ?_) ?_) ?_) ?_) ?_) ?_) ?_) ?_) ?_) ?_) ?_) ?_) ?_) ?_) ?_) ?_) ?_) ?_) ?_) ?_
  all_goals as_aux_lemma => kernel_rfl
theorem named : Tryz.prog.funcNamed Rows.fnTornRow.func = some 4 := by kernel_rfl
theorem inst : Tryz.f4.isInstance Tryz.prog Rows.fnTornRow.origin Rows.fnTornRow.targs := of_decide_eq_true (by kernel_rfl)
theorem wrap : Tryz.f4.isWrapper Tryz.prog Rows.fnTornRow.wrapper Rows.fnTornRow.mainSum := by unfold Func.isWrapper; first | (rw [if_pos (by decide +kernel)]; kernel_rfl) | (rw [if_neg (by decide +kernel)]; exact ⟨rfl, rfl⟩)
theorem over : Rows.fnTornRow.holds Tryz.pinned (OpenSpec.ofChange Rows.fnTornSpec) :=
  OpenClaim.holds_of_wide 4 Tryz.f4 rfl rfl rfl rfl rfl rfl rfl ⟨rfl, rfl, rfl, rfl, rfl⟩ rfl rfl rfl rfl rfl named Tryz.func4 closed inst wrap
    (fun os started H enc _ => lifted os started H enc)
theorem proved : Rows.FnTornSaid := over
end Go.Proofs.YtpcdhadfpeojkaaGreat.fnTorn
