import Derived.Test.YthkbmmjpjcehpaaGreatS2b
set_option linter.unusedVariables false
set_option maxRecDepth 20000
set_option maxHeartbeats 4000000
namespace Go.Proofs.YthkbmmjpjcehpaaGreat.fnKeeper
open Go Go.Aw Go.Aw.Pl
theorem own:ownKnob Tryz.prog.godebug=none:=by kernel_rfl
theorem laidOut:laidOutB Tryz.prog=true:=by kernel_rfl
theorem ca{a b:Bool}(h1:a=true)(h2:b=true):(a&&b)=true:=by rw[h1,h2];rfl
theorem lifted(os:Os)(started:os.Started)(H:Type)(enc:TypeId×Value->H):
    ReturnsInHanded {} Tryz.checked os 4 .any (Rows.fnKeeperSpec.pre6 enc Tryz.prog Tryz.f4 Rows.fnKeeperRow.domain false) (Rows.fnKeeperSpec.post enc Tryz.prog Tryz.f4 false true false false):=
  aBN (C:=Tryz.checked) (Ts:=[(.sl 5 (.int .u8))]) (g:=iB.fs.fn) started own laidOut (by kernel_rfl) Tryz.func4 iB.aLp (fun _ _=>rfl) (by kernel_rfl) rfl Tryz.underlying4 rfl
    (fun _ ds h=>match ds,h with
      |[_],_=>⟨rfl,rfl,rfl⟩)
    (ChangeSpec.witness6 (enc:=enc) (C:=Tryz.checked) false ⟨#[],#[(.slice none 0 0)],[]⟩ 24 (by kernel_rfl) (by kernel_rfl) (by kernel_rfl) (by kernel_rfl))
theorem closed:joinedFacts Tryz.prog 4 Tryz.f4 Rows.fnKeeperSpec Rows.fnKeeperRow=true:=by
  unfold joinedFacts
  refine ca (ca (ca (ca (ca (ca (ca (ca (ca (ca (ca (ca (ca (ca (ca (ca (ca (ca (ca (ca (ca (ca (ca (ca (ca (ca (ca (ca (ca (ca (ca ?_ ?_) ?_) ?_) ?_) ?_) ?_) ?_) ?_) ?_) ?_) ?_) ?_) ?_) ?_) ?_) ?_) ?_) ?_) ?_) ?_) ?_) ?_) ?_) ?_) ?_) ?_) ?_) ?_) ?_) ?_) ?_
  all_goals as_aux_lemma=>kernel_rfl
theorem named:Tryz.prog.funcNamed Rows.fnKeeperRow.func=some 4:=by kernel_rfl
theorem inst:Tryz.f4.isInstance Tryz.prog Rows.fnKeeperRow.origin Rows.fnKeeperRow.targs:=Ze (by kernel_rfl)
theorem wrap:Tryz.f4.isWrapper Tryz.prog Rows.fnKeeperRow.wrapper Rows.fnKeeperRow.mainSum:=by unfold Func.isWrapper;first|(rw[if_pos (by decide+kernel)];kernel_rfl)|(rw[if_neg (by decide+kernel)];exact⟨rfl,rfl⟩)
theorem over:Rows.fnKeeperRow.holds Tryz.pinned (OpenSpec.ofChange Rows.fnKeeperSpec):=
  OpenClaim.holds_of_wide 4 Tryz.f4 rfl rfl rfl rfl rfl rfl rfl ⟨rfl,rfl,rfl,rfl,rfl⟩ rfl rfl rfl rfl rfl named Tryz.func4 closed inst wrap
    (fun os started H enc _=>lifted os started H enc)
theorem proved:Rows.FnKeeperSaid:=over
end Go.Proofs.YthkbmmjpjcehpaaGreat.fnKeeper
namespace Go.Proofs.YthkbmmjpjcehpaaGreat.fnReadsStay
open Go Go.Aw Go.Aw.Pl
theorem own:ownKnob Tryz.prog.godebug=none:=by kernel_rfl
theorem laidOut:laidOutB Tryz.prog=true:=by kernel_rfl
theorem ca{a b:Bool}(h1:a=true)(h2:b=true):(a&&b)=true:=by rw[h1,h2];rfl
theorem lifted(os:Os)(started:os.Started)(H:Type)(enc:TypeId×Value->H):
    ReturnsInHanded {} Tryz.checked os 3 .any (Rows.fnReadsStaySpec.pre6 enc Tryz.prog Tryz.f3 Rows.fnReadsStayRow.domain false) (Rows.fnReadsStaySpec.post enc Tryz.prog Tryz.f3 false true false false):=
  aBN (C:=Tryz.checked) (Ts:=[(.sl 5 (.int .u8))]) (g:=fK.fs.fn) started own laidOut (by kernel_rfl) Tryz.func3 fK.aLp (fun _ _=>rfl) (by kernel_rfl) rfl Tryz.underlying4 rfl
    (fun _ ds h=>match ds,h with
      |[_],_=>⟨rfl,rfl,rfl⟩)
    (ChangeSpec.witness6 (enc:=enc) (C:=Tryz.checked) false ⟨#[],#[(.slice none 0 0)],[]⟩ 24 (by kernel_rfl) (by kernel_rfl) (by kernel_rfl) (by kernel_rfl))
theorem closed:joinedFacts Tryz.prog 3 Tryz.f3 Rows.fnReadsStaySpec Rows.fnReadsStayRow=true:=by
  unfold joinedFacts
  refine ca (ca (ca (ca (ca (ca (ca (ca (ca (ca (ca (ca (ca (ca (ca (ca (ca (ca (ca (ca (ca (ca (ca (ca (ca (ca (ca (ca (ca (ca (ca ?_ ?_) ?_) ?_) ?_) ?_) ?_) ?_) ?_) ?_) ?_) ?_) ?_) ?_) ?_) ?_) ?_) ?_) ?_) ?_) ?_) ?_) ?_) ?_) ?_) ?_) ?_) ?_) ?_) ?_) ?_) ?_
  all_goals as_aux_lemma=>kernel_rfl
theorem named:Tryz.prog.funcNamed Rows.fnReadsStayRow.func=some 3:=by kernel_rfl
theorem inst:Tryz.f3.isInstance Tryz.prog Rows.fnReadsStayRow.origin Rows.fnReadsStayRow.targs:=Ze (by kernel_rfl)
theorem wrap:Tryz.f3.isWrapper Tryz.prog Rows.fnReadsStayRow.wrapper Rows.fnReadsStayRow.mainSum:=by unfold Func.isWrapper;first|(rw[if_pos (by decide+kernel)];kernel_rfl)|(rw[if_neg (by decide+kernel)];exact⟨rfl,rfl⟩)
theorem over:Rows.fnReadsStayRow.holds Tryz.pinned (OpenSpec.ofChange Rows.fnReadsStaySpec):=
  OpenClaim.holds_of_wide 3 Tryz.f3 rfl rfl rfl rfl rfl rfl rfl ⟨rfl,rfl,rfl,rfl,rfl⟩ rfl rfl rfl rfl rfl named Tryz.func3 closed inst wrap
    (fun os started H enc _=>lifted os started H enc)
theorem proved:Rows.FnReadsStaySaid:=over
end Go.Proofs.YthkbmmjpjcehpaaGreat.fnReadsStay
