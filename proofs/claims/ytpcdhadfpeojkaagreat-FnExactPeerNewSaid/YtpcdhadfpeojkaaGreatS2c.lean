import Derived.Test.YtpcdhadfpeojkaaGreatS2b
set_option linter.unusedVariables false
set_option maxRecDepth 20000
set_option maxHeartbeats 4000000
namespace Go.Proofs.YtpcdhadfpeojkaaGreat.fnExactPeerNew
open Go Go.Aw Go.Aw.Pl
theorem own : ownKnob Tryz.prog.godebug = none := by kernel_rfl
theorem laidOut : laidOutB Tryz.prog = true := by kernel_rfl
theorem ca {a b : Bool} (h1 : a = true) (h2 : b = true) : (a && b) = true := by rw [h1, h2]; rfl
theorem lifted (os : Os) (started : os.Started) (H : Type) (enc : TypeId × Value → H) :
    ReturnsInHanded {} Tryz.checked os 7 .any (Rows.fnExactPeerNewSpec.pre6 enc Tryz.prog Tryz.f7 Rows.fnExactPeerNewRow.domain false) (Rows.fnExactPeerNewSpec.post enc Tryz.prog Tryz.f7 false true false false) :=
  law_lifted (C := Tryz.checked) (Ts := [tyS211, (.int .i64), (.int .i64)]) (g := laws_FnExactPeerNew.fs.fn) started own laidOut (by kernel_rfl) Tryz.func7 laws_FnExactPeerNew.sound (fun _ _ => rfl) (by kernel_rfl) rfl Tryz.underlying4 rfl
    (fun _ ds h => match ds, h with
      | [_, _, _], _ => ⟨rfl, rfl, rfl⟩)
    (ChangeSpec.witness6 (enc := enc) (C := Tryz.checked) false ⟨#[], #[.agg #[.int .i64 0, .int .i64 0, .int .i64 0, .int .i64 0], (.int .i64 0), (.int .i64 0)], []⟩ 24 (by kernel_rfl) (by kernel_rfl) (by kernel_rfl) (by kernel_rfl))
theorem closed : joinedFacts Tryz.prog 7 Tryz.f7 Rows.fnExactPeerNewSpec Rows.fnExactPeerNewRow = true := by
  unfold joinedFacts
  refine ca (ca (ca (ca (ca (ca (ca (ca (ca (ca (ca (ca (ca (ca (ca (ca (ca (ca (ca (ca (ca (ca (ca (ca (ca (ca (ca (ca (ca (ca (ca ?_ ?_) ?_) ?_) ?_) ?_) ?_) ?_) ?_) ?_) ?_) ?_) ?_) ?_) ?_) ?_) ?_) ?_) ?_) ?_) ?_) ?_) ?_) ?_) ?_) ?_) ?_) ?_) ?_) ?_) ?_) ?_
  all_goals as_aux_lemma => kernel_rfl
theorem named : Tryz.prog.funcNamed Rows.fnExactPeerNewRow.func = some 7 := by kernel_rfl
theorem inst : Tryz.f7.isInstance Tryz.prog Rows.fnExactPeerNewRow.origin Rows.fnExactPeerNewRow.targs := of_decide_eq_true (by kernel_rfl)
theorem wrap : Tryz.f7.isWrapper Tryz.prog Rows.fnExactPeerNewRow.wrapper Rows.fnExactPeerNewRow.mainSum := by unfold Func.isWrapper; first | (rw [if_pos (by decide +kernel)]; kernel_rfl) | (rw [if_neg (by decide +kernel)]; exact ⟨rfl, rfl⟩)
theorem over : Rows.fnExactPeerNewRow.holds Tryz.pinned (OpenSpec.ofChange Rows.fnExactPeerNewSpec) :=
  OpenClaim.holds_of_wide 7 Tryz.f7 rfl rfl rfl rfl rfl rfl rfl ⟨rfl, rfl, rfl, rfl, rfl⟩ rfl rfl rfl rfl rfl named Tryz.func7 closed inst wrap
    (fun os started H enc _ => lifted os started H enc)
theorem proved : Rows.FnExactPeerNewSaid := over
end Go.Proofs.YtpcdhadfpeojkaaGreat.fnExactPeerNew
