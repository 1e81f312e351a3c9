import Derived.Test.YtdlkgkkfpfglbaaGreatS1b
set_option linter.unusedVariables false
set_option maxRecDepth 20000
set_option maxHeartbeats 4000000
namespace Go.Proofs.YtdlkgkkfpfglbaaGreat.fnExactHardOf
open Go Go.Aw Go.Aw.Pl
theorem own:ownKnob Tryz.prog.godebug=none:=by kernel_rfl
theorem laidOut:laidOutB Tryz.prog=true:=by kernel_rfl
theorem ca{a b:Bool}(h1:a=true)(h2:b=true):(a&&b)=true:=by rw[h1,h2];rfl
theorem lifted(os:Os)(started:os.Started)(H:Type)(enc:TypeId×Value->H):
    ReturnsInHanded {} Tryz.checked os 3 .any (Rows.fnExactHardOfSpec.pre6 enc Tryz.prog Tryz.f3 Rows.fnExactHardOfRow.domain false) (Rows.fnExactHardOfSpec.post enc Tryz.prog Tryz.f3 false true false false):=
  aJ7 (C:=Tryz.checked) (Ts:=[gA,(.sl 5 (.int .u8))]) (g:=jF.fs.fn) started own laidOut (by kernel_rfl) Tryz.func3 jF.aPy (fun _ _=>rfl) (by kernel_rfl) rfl Tryz.underlying4 rfl
    (fun _ ds h=>match ds,h with
      |[_,_],_=>⟨rfl,rfl,rfl⟩)
    (ChangeSpec.witness6 (enc:=enc) (C:=Tryz.checked) false ⟨#[],#[.agg #[.int .i64 0,.int .i64 0,.int .i64 0,.int .i64 0],(.slice none 0 0)],[]⟩ 24 (by kernel_rfl) (by kernel_rfl) (by kernel_rfl) (by kernel_rfl))
theorem closed:joinedFacts Tryz.prog 3 Tryz.f3 Rows.fnExactHardOfSpec Rows.fnExactHardOfRow=true:=by
  unfold joinedFacts
  refine ca (ca (ca (ca (ca (ca (ca (ca (ca (ca (ca (ca (ca (ca (ca (ca (ca (ca (ca (ca (ca (ca (ca (ca (ca (ca (ca (ca (ca (ca (ca ?_ ?_) ?_) ?_) ?_) ?_) ?_) ?_) ?_) ?_) ?_) ?_) ?_) ?_) ?_) ?_) ?_) ?_) ?_) ?_) ?_) ?_) ?_) ?_) ?_) ?_) ?_) ?_) ?_) ?_) ?_) ?_
  all_goals as_aux_lemma=>kernel_rfl
theorem named:Tryz.prog.funcNamed Rows.fnExactHardOfRow.func=some 3:=by kernel_rfl
theorem inst:Tryz.f3.isInstance Tryz.prog Rows.fnExactHardOfRow.origin Rows.fnExactHardOfRow.targs:=Ze (by kernel_rfl)
theorem wrap:Tryz.f3.isWrapper Tryz.prog Rows.fnExactHardOfRow.wrapper Rows.fnExactHardOfRow.mainSum:=by unfold Func.isWrapper;first|(rw[if_pos (by decide+kernel)];kernel_rfl)|(rw[if_neg (by decide+kernel)];exact⟨rfl,rfl⟩)
theorem over:Rows.fnExactHardOfRow.holds Tryz.pinned (OpenSpec.ofChange Rows.fnExactHardOfSpec):=
  OpenClaim.holds_of_wide 3 Tryz.f3 rfl rfl rfl rfl rfl rfl rfl ⟨rfl,rfl,rfl,rfl,rfl⟩ rfl rfl rfl rfl rfl named Tryz.func3 closed inst wrap
    (fun os started H enc _=>lifted os started H enc)
theorem proved:Rows.FnExactHardOfSaid:=over
end Go.Proofs.YtdlkgkkfpfglbaaGreat.fnExactHardOf
