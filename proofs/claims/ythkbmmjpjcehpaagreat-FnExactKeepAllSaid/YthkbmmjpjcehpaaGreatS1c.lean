import Derived.Test.YthkbmmjpjcehpaaGreatS1b
set_option linter.unusedVariables false
set_option maxRecDepth 20000
set_option maxHeartbeats 4000000
namespace Go.Proofs.YthkbmmjpjcehpaaGreat.fnExactKeepAll
open Go Go.Aw Go.Aw.Pl
theorem own:ownKnob Tryz.prog.godebug=none:=by kernel_rfl
theorem laidOut:laidOutB Tryz.prog=true:=by kernel_rfl
theorem ca{a b:Bool}(h1:a=true)(h2:b=true):(a&&b)=true:=by rw[h1,h2];rfl
theorem lifted(os:Os)(started:os.Started)(H:Type)(enc:TypeId×Value->H):
    ReturnsInHanded {} Tryz.checked os 5 .any (Rows.fnExactKeepAllSpec.pre6 enc Tryz.prog Tryz.f5 Rows.fnExactKeepAllRow.domain false) (Rows.fnExactKeepAllSpec.post enc Tryz.prog Tryz.f5 false true false false):=
  aHm (C:=Tryz.checked) (Ts:=[kA,(.sl 102 jR)]) (g:=hZ.fs.fn) started own laidOut (by kernel_rfl) Tryz.func5 hZ.aME (fun _ _=>rfl) (by kernel_rfl) rfl Tryz.underlying4 rfl
    (fun _ ds h=>match ds,h with
      |[_,_],_=>⟨rfl,rfl,rfl⟩)
    (ChangeSpec.witness6 (enc:=enc) (C:=Tryz.checked) false ⟨#[],#[.agg #[.int .i64 0,.int .i64 0,.int .i64 0,.int .i64 0],(.slice none 0 0)],[]⟩ 24 (by kernel_rfl) (by kernel_rfl) (by kernel_rfl) (by kernel_rfl))
theorem closed:joinedFacts Tryz.prog 5 Tryz.f5 Rows.fnExactKeepAllSpec Rows.fnExactKeepAllRow=true:=by
  unfold joinedFacts
  refine ca (ca (ca (ca (ca (ca (ca (ca (ca (ca (ca (ca (ca (ca (ca (ca (ca (ca (ca (ca (ca (ca (ca (ca (ca (ca (ca (ca (ca (ca (ca ?_ ?_) ?_) ?_) ?_) ?_) ?_) ?_) ?_) ?_) ?_) ?_) ?_) ?_) ?_) ?_) ?_) ?_) ?_) ?_) ?_) ?_) ?_) ?_) ?_) ?_) ?_) ?_) ?_) ?_) ?_) ?_
  all_goals as_aux_lemma=>kernel_rfl
theorem named:Tryz.prog.funcNamed Rows.fnExactKeepAllRow.func=some 5:=by kernel_rfl
theorem inst:Tryz.f5.isInstance Tryz.prog Rows.fnExactKeepAllRow.origin Rows.fnExactKeepAllRow.targs:=Ze (by kernel_rfl)
theorem wrap:Tryz.f5.isWrapper Tryz.prog Rows.fnExactKeepAllRow.wrapper Rows.fnExactKeepAllRow.mainSum:=by unfold Func.isWrapper;first|(rw[if_pos (by decide+kernel)];kernel_rfl)|(rw[if_neg (by decide+kernel)];exact⟨rfl,rfl⟩)
theorem over:Rows.fnExactKeepAllRow.holds Tryz.pinned (OpenSpec.ofChange Rows.fnExactKeepAllSpec):=
  OpenClaim.holds_of_wide 5 Tryz.f5 rfl rfl rfl rfl rfl rfl rfl ⟨rfl,rfl,rfl,rfl,rfl⟩ rfl rfl rfl rfl rfl named Tryz.func5 closed inst wrap
    (fun os started H enc _=>lifted os started H enc)
theorem proved:Rows.FnExactKeepAllSaid:=over
end Go.Proofs.YthkbmmjpjcehpaaGreat.fnExactKeepAll
