import Derived.Test.YtpcdhadfpeojkaaGreatS2a
namespace Go.Aw.Pl
open Go Go.Aw Go.Proofs
set_option linter.unusedVariables false
set_option maxRecDepth 20000
set_option maxHeartbeats 2000000
noncomputable section
namespace laws_eqMarkS
noncomputable def fs : FS := ⟨[(.val (.sl 254 tyS24) .f), (.val (.sl 254 tyS24) .f)], [(.bool, .o)], fun _ => true, fun x => ((), ((laws_eqMarkS x.1 x.2.1), ()))⟩
noncomputable def E : Env := ⟨theta, [(362, laws_eqMark.fs)], []⟩
noncomputable def sh4 : ShSt := ⟨((.one (.dat (.sl 254 tyS24))) :: (.one (.dat (.sl 254 tyS24))) :: uu :: uu :: uu :: ui :: un 21 []), []⟩
noncomputable def outs4 : List OutC := [⟨.ret, ⟨0, [4], []⟩, ⟨(un 4 ((.one (.dat .bool)) :: un 22 [])), []⟩⟩, ⟨(.exit 0), ⟨0, [], []⟩, ⟨(un 27 []), []⟩⟩]
noncomputable def L4 : LC := ⟨4, ⟨4, [0, 1, 5], []⟩, sh4, outs4, pre4, fn4⟩
noncomputable def H : List LC := [L4]
noncomputable def code (i : Nat) : Code := (loopsOf (bodyOf Tryz.f323)).getD i .skip
theorem lok4 : LoopOk E H (code 0) L4 := ⟨mu4, fun ⟨x1, x2, x3, ()⟩ hp => rounds_ok (show L4.step E H (code 0) (x1, (x2, (x3, ()))) = raw4 x1 x2 x3 from by kernel_rfl) (ok4 x1 x2 x3 hp)⟩
theorem env : EnvOk Tryz.prog E := env_cons laws_eqMark.known (env_nil tys)
theorem loops : ∀ c, Tryz.f323.body = some c → LoopsOk E H c := loops_of (by kernel_rfl) (by kernel_rfl) fun i l h => match i, h with
  | 0, h => Option.some.inj h ▸ lok4
  | n + 1, h => by cases h
theorem sound : Sound Tryz.prog 323 fs := fn_sound env mixed Tryz.func323 H loops fun ⟨x0, x1, ()⟩ hw _ => (show runFn E H Tryz.f323 fs.ps fs.rs (x0, (x1, ())) = raw x0 x1 from by kernel_rfl).trans (eq x0 x1 hw)
theorem known : Seen Tryz.prog 323 fs := ⟨sound, _, Tryz.func323, by kernel_rfl, by kernel_rfl⟩
end laws_eqMarkS
namespace laws_eqMaker
noncomputable def fs : FS := ⟨[(.val tyS28 .f), (.val tyS28 .f)], [(.bool, .o)], fun _ => true, fun x => ((), ((laws_eqMaker x.1 x.2.1), ()))⟩
noncomputable def E : Env := ⟨theta, [(323, laws_eqMarkS.fs)], []⟩
noncomputable def H : List LC := []
theorem env : EnvOk Tryz.prog E := env_cons laws_eqMarkS.known (env_nil tys)
theorem loops : ∀ c, Tryz.f271.body = some c → LoopsOk E H c := loops_none (by kernel_rfl)
theorem sound : Sound Tryz.prog 271 fs := fn_sound env mixed Tryz.func271 H loops fun ⟨x0, x1, ()⟩ hw _ => (show runFn E H Tryz.f271 fs.ps fs.rs (x0, (x1, ())) = raw x0 x1 from by kernel_rfl).trans (eq x0 x1 hw)
theorem known : Seen Tryz.prog 271 fs := ⟨sound, _, Tryz.func271, by kernel_rfl, by kernel_rfl⟩
end laws_eqMaker
namespace laws_eqMakerS
noncomputable def fs : FS := ⟨[(.val (.sl 156 tyS28) .f), (.val (.sl 156 tyS28) .f)], [(.bool, .o)], fun _ => true, fun x => ((), ((laws_eqMakerS x.1 x.2.1), ()))⟩
noncomputable def E : Env := ⟨theta, [(271, laws_eqMaker.fs)], []⟩
noncomputable def sh4 : ShSt := ⟨((.one (.dat (.sl 156 tyS28))) :: (.one (.dat (.sl 156 tyS28))) :: uu :: uu :: uu :: ui :: un 21 []), []⟩
noncomputable def outs4 : List OutC := [⟨.ret, ⟨0, [4], []⟩, ⟨(un 4 ((.one (.dat .bool)) :: un 22 [])), []⟩⟩, ⟨(.exit 0), ⟨0, [], []⟩, ⟨(un 27 []), []⟩⟩]
noncomputable def L4 : LC := ⟨4, ⟨4, [0, 1, 5], []⟩, sh4, outs4, pre4, fn4⟩
noncomputable def H : List LC := [L4]
noncomputable def code (i : Nat) : Code := (loopsOf (bodyOf Tryz.f180)).getD i .skip
theorem lok4 : LoopOk E H (code 0) L4 := ⟨mu4, fun ⟨x1, x2, x3, ()⟩ hp => rounds_ok (show L4.step E H (code 0) (x1, (x2, (x3, ()))) = raw4 x1 x2 x3 from by kernel_rfl) (ok4 x1 x2 x3 hp)⟩
theorem env : EnvOk Tryz.prog E := env_cons laws_eqMaker.known (env_nil tys)
theorem loops : ∀ c, Tryz.f180.body = some c → LoopsOk E H c := loops_of (by kernel_rfl) (by kernel_rfl) fun i l h => match i, h with
  | 0, h => Option.some.inj h ▸ lok4
  | n + 1, h => by cases h
theorem sound : Sound Tryz.prog 180 fs := fn_sound env mixed Tryz.func180 H loops fun ⟨x0, x1, ()⟩ hw _ => (show runFn E H Tryz.f180 fs.ps fs.rs (x0, (x1, ())) = raw x0 x1 from by kernel_rfl).trans (eq x0 x1 hw)
theorem known : Seen Tryz.prog 180 fs := ⟨sound, _, Tryz.func180, by kernel_rfl, by kernel_rfl⟩
end laws_eqMakerS
namespace laws_eqIntS
noncomputable def fs : FS := ⟨[(.val (.sl 3 (.int .i64)) .f), (.val (.sl 3 (.int .i64)) .f)], [(.bool, .o)], fun _ => true, fun x => ((), ((laws_eqIntS x.1 x.2.1), ()))⟩
noncomputable def E : Env := ⟨theta, [], []⟩
noncomputable def sh4 : ShSt := ⟨((.one (.dat (.sl 3 (.int .i64)))) :: (.one (.dat (.sl 3 (.int .i64)))) :: uu :: uu :: uu :: ui :: un 20 []), []⟩
noncomputable def outs4 : List OutC := [⟨.ret, ⟨0, [4], []⟩, ⟨(un 4 ((.one (.dat .bool)) :: un 21 [])), []⟩⟩, ⟨(.exit 0), ⟨0, [], []⟩, ⟨(un 26 []), []⟩⟩]
noncomputable def L4 : LC := ⟨4, ⟨4, [0, 1, 5], []⟩, sh4, outs4, pre4, fn4⟩
noncomputable def H : List LC := [L4]
noncomputable def code (i : Nat) : Code := (loopsOf (bodyOf Tryz.f146)).getD i .skip
theorem lok4 : LoopOk E H (code 0) L4 := ⟨mu4, fun ⟨x1, x2, x3, ()⟩ hp => rounds_ok (show L4.step E H (code 0) (x1, (x2, (x3, ()))) = raw4 x1 x2 x3 from by kernel_rfl) (ok4 x1 x2 x3 hp)⟩
theorem env : EnvOk Tryz.prog E := env_nil tys
theorem loops : ∀ c, Tryz.f146.body = some c → LoopsOk E H c := loops_of (by kernel_rfl) (by kernel_rfl) fun i l h => match i, h with
  | 0, h => Option.some.inj h ▸ lok4
  | n + 1, h => by cases h
theorem sound : Sound Tryz.prog 146 fs := fn_sound env mixed Tryz.func146 H loops fun ⟨x0, x1, ()⟩ hw _ => (show runFn E H Tryz.f146 fs.ps fs.rs (x0, (x1, ())) = raw x0 x1 from by kernel_rfl).trans (eq x0 x1 hw)
theorem known : Seen Tryz.prog 146 fs := ⟨sound, _, Tryz.func146, by kernel_rfl, by kernel_rfl⟩
end laws_eqIntS
namespace laws_eqGroup
noncomputable def fs : FS := ⟨[(.val tyS25 .f), (.val tyS25 .f)], [(.bool, .o)], fun _ => true, fun x => ((), ((laws_eqGroup x.1 x.2.1), ()))⟩
noncomputable def E : Env := ⟨theta, [(146, laws_eqIntS.fs)], []⟩
noncomputable def H : List LC := []
theorem env : EnvOk Tryz.prog E := env_cons laws_eqIntS.known (env_nil tys)
theorem loops : ∀ c, Tryz.f272.body = some c → LoopsOk E H c := loops_none (by kernel_rfl)
theorem sound : Sound Tryz.prog 272 fs := fn_sound env mixed Tryz.func272 H loops fun ⟨x0, x1, ()⟩ hw _ => (show runFn E H Tryz.f272 fs.ps fs.rs (x0, (x1, ())) = raw x0 x1 from by kernel_rfl).trans (eq x0 x1 hw)
theorem known : Seen Tryz.prog 272 fs := ⟨sound, _, Tryz.func272, by kernel_rfl, by kernel_rfl⟩
end laws_eqGroup
namespace laws_eqGroupS
noncomputable def fs : FS := ⟨[(.val (.sl 159 tyS25) .f), (.val (.sl 159 tyS25) .f)], [(.bool, .o)], fun _ => true, fun x => ((), ((laws_eqGroupS x.1 x.2.1), ()))⟩
noncomputable def E : Env := ⟨theta, [(272, laws_eqGroup.fs)], []⟩
noncomputable def sh4 : ShSt := ⟨((.one (.dat (.sl 159 tyS25))) :: (.one (.dat (.sl 159 tyS25))) :: uu :: uu :: uu :: ui :: un 21 []), []⟩
noncomputable def outs4 : List OutC := [⟨.ret, ⟨0, [4], []⟩, ⟨(un 4 ((.one (.dat .bool)) :: un 22 [])), []⟩⟩, ⟨(.exit 0), ⟨0, [], []⟩, ⟨(un 27 []), []⟩⟩]
noncomputable def L4 : LC := ⟨4, ⟨4, [0, 1, 5], []⟩, sh4, outs4, pre4, fn4⟩
noncomputable def H : List LC := [L4]
noncomputable def code (i : Nat) : Code := (loopsOf (bodyOf Tryz.f181)).getD i .skip
theorem lok4 : LoopOk E H (code 0) L4 := ⟨mu4, fun ⟨x1, x2, x3, ()⟩ hp => rounds_ok (show L4.step E H (code 0) (x1, (x2, (x3, ()))) = raw4 x1 x2 x3 from by kernel_rfl) (ok4 x1 x2 x3 hp)⟩
theorem env : EnvOk Tryz.prog E := env_cons laws_eqGroup.known (env_nil tys)
theorem loops : ∀ c, Tryz.f181.body = some c → LoopsOk E H c := loops_of (by kernel_rfl) (by kernel_rfl) fun i l h => match i, h with
  | 0, h => Option.some.inj h ▸ lok4
  | n + 1, h => by cases h
theorem sound : Sound Tryz.prog 181 fs := fn_sound env mixed Tryz.func181 H loops fun ⟨x0, x1, ()⟩ hw _ => (show runFn E H Tryz.f181 fs.ps fs.rs (x0, (x1, ())) = raw x0 x1 from by kernel_rfl).trans (eq x0 x1 hw)
theorem known : Seen Tryz.prog 181 fs := ⟨sound, _, Tryz.func181, by kernel_rfl, by kernel_rfl⟩
end laws_eqGroupS
namespace laws_eqAnswer
noncomputable def fs : FS := ⟨[(.val tyS29 .f), (.val tyS29 .f)], [(.bool, .o)], fun _ => true, fun x => ((), ((laws_eqAnswer x.1 x.2.1), ()))⟩
noncomputable def E : Env := ⟨theta, [], []⟩
noncomputable def H : List LC := []
theorem env : EnvOk Tryz.prog E := env_nil tys
theorem loops : ∀ c, Tryz.f182.body = some c → LoopsOk E H c := loops_none (by kernel_rfl)
theorem sound : Sound Tryz.prog 182 fs := fn_sound env mixed Tryz.func182 H loops fun ⟨x0, x1, ()⟩ hw _ => (show runFn E H Tryz.f182 fs.ps fs.rs (x0, (x1, ())) = raw x0 x1 from by kernel_rfl).trans (eq x0 x1 hw)
theorem known : Seen Tryz.prog 182 fs := ⟨sound, _, Tryz.func182, by kernel_rfl, by kernel_rfl⟩
end laws_eqAnswer
namespace laws_eqAnswerS
noncomputable def fs : FS := ⟨[(.val (.sl 48 tyS29) .f), (.val (.sl 48 tyS29) .f)], [(.bool, .o)], fun _ => true, fun x => ((), ((laws_eqAnswerS x.1 x.2.1), ()))⟩
noncomputable def E : Env := ⟨theta, [(182, laws_eqAnswer.fs)], []⟩
noncomputable def sh4 : ShSt := ⟨((.one (.dat (.sl 48 tyS29))) :: (.one (.dat (.sl 48 tyS29))) :: uu :: uu :: uu :: ui :: un 21 []), []⟩
noncomputable def outs4 : List OutC := [⟨.ret, ⟨0, [4], []⟩, ⟨(un 4 ((.one (.dat .bool)) :: un 22 [])), []⟩⟩, ⟨(.exit 0), ⟨0, [], []⟩, ⟨(un 27 []), []⟩⟩]
noncomputable def L4 : LC := ⟨4, ⟨4, [0, 1, 5], []⟩, sh4, outs4, pre4, fn4⟩
noncomputable def H : List LC := [L4]
noncomputable def code (i : Nat) : Code := (loopsOf (bodyOf Tryz.f60)).getD i .skip
theorem lok4 : LoopOk E H (code 0) L4 := ⟨mu4, fun ⟨x1, x2, x3, ()⟩ hp => rounds_ok (show L4.step E H (code 0) (x1, (x2, (x3, ()))) = raw4 x1 x2 x3 from by kernel_rfl) (ok4 x1 x2 x3 hp)⟩
theorem env : EnvOk Tryz.prog E := env_cons laws_eqAnswer.known (env_nil tys)
theorem loops : ∀ c, Tryz.f60.body = some c → LoopsOk E H c := loops_of (by kernel_rfl) (by kernel_rfl) fun i l h => match i, h with
  | 0, h => Option.some.inj h ▸ lok4
  | n + 1, h => by cases h
theorem sound : Sound Tryz.prog 60 fs := fn_sound env mixed Tryz.func60 H loops fun ⟨x0, x1, ()⟩ hw _ => (show runFn E H Tryz.f60 fs.ps fs.rs (x0, (x1, ())) = raw x0 x1 from by kernel_rfl).trans (eq x0 x1 hw)
theorem known : Seen Tryz.prog 60 fs := ⟨sound, _, Tryz.func60, by kernel_rfl, by kernel_rfl⟩
end laws_eqAnswerS
namespace laws_eqKeep
noncomputable def fs : FS := ⟨[(.val tyS21 .f), (.val tyS21 .f)], [(.bool, .o)], fun _ => true, fun x => ((), ((laws_eqKeep x.1 x.2.1), ()))⟩
noncomputable def E : Env := ⟨theta, [(179, laws_eqRowS.fs), (180, laws_eqMakerS.fs), (146, laws_eqIntS.fs), (181, laws_eqGroupS.fs), (60, laws_eqAnswerS.fs)], []⟩
noncomputable def H : List LC := []
theorem env : EnvOk Tryz.prog E := env_cons laws_eqRowS.known (env_cons laws_eqMakerS.known (env_cons laws_eqIntS.known (env_cons laws_eqGroupS.known (env_cons laws_eqAnswerS.known (env_nil tys)))))
theorem loops : ∀ c, Tryz.f59.body = some c → LoopsOk E H c := loops_none (by kernel_rfl)
theorem sound : Sound Tryz.prog 59 fs := fn_sound env mixed Tryz.func59 H loops fun ⟨x0, x1, ()⟩ hw _ => (show runFn E H Tryz.f59 fs.ps fs.rs (x0, (x1, ())) = raw x0 x1 from by kernel_rfl).trans (eq x0 x1 hw)
theorem known : Seen Tryz.prog 59 fs := ⟨sound, _, Tryz.func59, by kernel_rfl, by kernel_rfl⟩
end laws_eqKeep
namespace laws_eqHard
noncomputable def fs : FS := ⟨[(.val (.pair (.int .i64) (.pair (.int .i64) (.pair tyS212 (.pair tyS21 .unit)))) .f), (.val (.pair (.int .i64) (.pair (.int .i64) (.pair tyS212 (.pair tyS21 .unit)))) .f)], [(.bool, .o)], fun _ => true, fun x => ((), ((laws_eqHard x.1 x.2.1), ()))⟩
noncomputable def E : Env := ⟨theta, [(191, laws_eqLog.fs), (59, laws_eqKeep.fs)], []⟩
noncomputable def H : List LC := []
theorem env : EnvOk Tryz.prog E := env_cons laws_eqLog.known (env_cons laws_eqKeep.known (env_nil tys))
theorem loops : ∀ c, Tryz.f70.body = some c → LoopsOk E H c := loops_none (by kernel_rfl)
theorem sound : Sound Tryz.prog 70 fs := fn_sound env mixed Tryz.func70 H loops fun ⟨x0, x1, ()⟩ hw _ => (show runFn E H Tryz.f70 fs.ps fs.rs (x0, (x1, ())) = raw x0 x1 from by kernel_rfl).trans (eq x0 x1 hw)
theorem known : Seen Tryz.prog 70 fs := ⟨sound, _, Tryz.func70, by kernel_rfl, by kernel_rfl⟩
end laws_eqHard
namespace laws_eqBoolS
noncomputable def fs : FS := ⟨[(.val (.sl 4 .bool) .f), (.val (.sl 4 .bool) .f)], [(.bool, .o)], fun _ => true, fun x => ((), ((laws_eqBoolS x.1 x.2.1), ()))⟩
noncomputable def E : Env := ⟨theta, [], []⟩
noncomputable def sh4 : ShSt := ⟨((.one (.dat (.sl 4 .bool))) :: (.one (.dat (.sl 4 .bool))) :: uu :: uu :: uu :: ui :: un 20 []), []⟩
noncomputable def outs4 : List OutC := [⟨.ret, ⟨0, [4], []⟩, ⟨(un 4 ((.one (.dat .bool)) :: un 21 [])), []⟩⟩, ⟨(.exit 0), ⟨0, [], []⟩, ⟨(un 26 []), []⟩⟩]
noncomputable def L4 : LC := ⟨4, ⟨4, [0, 1, 5], []⟩, sh4, outs4, pre4, fn4⟩
noncomputable def H : List LC := [L4]
noncomputable def code (i : Nat) : Code := (loopsOf (bodyOf Tryz.f145)).getD i .skip
theorem lok4 : LoopOk E H (code 0) L4 := ⟨mu4, fun ⟨x1, x2, x3, ()⟩ hp => rounds_ok (show L4.step E H (code 0) (x1, (x2, (x3, ()))) = raw4 x1 x2 x3 from by kernel_rfl) (ok4 x1 x2 x3 hp)⟩
theorem env : EnvOk Tryz.prog E := env_nil tys
theorem loops : ∀ c, Tryz.f145.body = some c → LoopsOk E H c := loops_of (by kernel_rfl) (by kernel_rfl) fun i l h => match i, h with
  | 0, h => Option.some.inj h ▸ lok4
  | n + 1, h => by cases h
theorem sound : Sound Tryz.prog 145 fs := fn_sound env mixed Tryz.func145 H loops fun ⟨x0, x1, ()⟩ hw _ => (show runFn E H Tryz.f145 fs.ps fs.rs (x0, (x1, ())) = raw x0 x1 from by kernel_rfl).trans (eq x0 x1 hw)
theorem known : Seen Tryz.prog 145 fs := ⟨sound, _, Tryz.func145, by kernel_rfl, by kernel_rfl⟩
end laws_eqBoolS
namespace laws_eqByteS
noncomputable def fs : FS := ⟨[(.val (.sl 5 (.int .u8)) .f), (.val (.sl 5 (.int .u8)) .f)], [(.bool, .o)], fun _ => true, fun x => ((), ((laws_eqByteS x.1 x.2.1), ()))⟩
noncomputable def E : Env := ⟨theta, [], []⟩
noncomputable def sh4 : ShSt := ⟨((.one (.dat (.sl 5 (.int .u8)))) :: (.one (.dat (.sl 5 (.int .u8)))) :: uu :: uu :: uu :: ui :: un 20 []), []⟩
noncomputable def outs4 : List OutC := [⟨.ret, ⟨0, [4], []⟩, ⟨(un 4 ((.one (.dat .bool)) :: un 21 [])), []⟩⟩, ⟨(.exit 0), ⟨0, [], []⟩, ⟨(un 26 []), []⟩⟩]
noncomputable def L4 : LC := ⟨4, ⟨4, [0, 1, 5], []⟩, sh4, outs4, pre4, fn4⟩
noncomputable def H : List LC := [L4]
noncomputable def code (i : Nat) : Code := (loopsOf (bodyOf Tryz.f71)).getD i .skip
theorem lok4 : LoopOk E H (code 0) L4 := ⟨mu4, fun ⟨x1, x2, x3, ()⟩ hp => rounds_ok (show L4.step E H (code 0) (x1, (x2, (x3, ()))) = raw4 x1 x2 x3 from by kernel_rfl) (ok4 x1 x2 x3 hp)⟩
theorem env : EnvOk Tryz.prog E := env_nil tys
theorem loops : ∀ c, Tryz.f71.body = some c → LoopsOk E H c := loops_of (by kernel_rfl) (by kernel_rfl) fun i l h => match i, h with
  | 0, h => Option.some.inj h ▸ lok4
  | n + 1, h => by cases h
theorem sound : Sound Tryz.prog 71 fs := fn_sound env mixed Tryz.func71 H loops fun ⟨x0, x1, ()⟩ hw _ => (show runFn E H Tryz.f71 fs.ps fs.rs (x0, (x1, ())) = raw x0 x1 from by kernel_rfl).trans (eq x0 x1 hw)
theorem known : Seen Tryz.prog 71 fs := ⟨sound, _, Tryz.func71, by kernel_rfl, by kernel_rfl⟩
end laws_eqByteS
namespace laws_eqDisk
noncomputable def fs : FS := ⟨[(.val (.pair (.sl 5 (.int .u8)) (.pair (.int .i64) .unit)) .f), (.val (.pair (.sl 5 (.int .u8)) (.pair (.int .i64) .unit)) .f)], [(.bool, .o)], fun _ => true, fun x => ((), ((laws_eqDisk x.1 x.2.1), ()))⟩
noncomputable def E : Env := ⟨theta, [(71, laws_eqByteS.fs)], []⟩
noncomputable def H : List LC := []
theorem env : EnvOk Tryz.prog E := env_cons laws_eqByteS.known (env_nil tys)
theorem loops : ∀ c, Tryz.f147.body = some c → LoopsOk E H c := loops_none (by kernel_rfl)
theorem sound : Sound Tryz.prog 147 fs := fn_sound env mixed Tryz.func147 H loops fun ⟨x0, x1, ()⟩ hw _ => (show runFn E H Tryz.f147 fs.ps fs.rs (x0, (x1, ())) = raw x0 x1 from by kernel_rfl).trans (eq x0 x1 hw)
theorem known : Seen Tryz.prog 147 fs := ⟨sound, _, Tryz.func147, by kernel_rfl, by kernel_rfl⟩
end laws_eqDisk
namespace laws_eqRpc
noncomputable def fs : FS := ⟨[(.val tyS26 .f), (.val tyS26 .f)], [(.bool, .o)], fun _ => true, fun x => ((), ((laws_eqRpc x.1 x.2.1), ()))⟩
noncomputable def E : Env := ⟨theta, [(175, laws_eqEntryS.fs)], []⟩
noncomputable def H : List LC := []
theorem env : EnvOk Tryz.prog E := env_cons laws_eqEntryS.known (env_nil tys)
theorem loops : ∀ c, Tryz.f55.body = some c → LoopsOk E H c := loops_none (by kernel_rfl)
theorem sound : Sound Tryz.prog 55 fs := fn_sound env mixed Tryz.func55 H loops fun ⟨x0, x1, ()⟩ hw _ => (show runFn E H Tryz.f55 fs.ps fs.rs (x0, (x1, ())) = raw x0 x1 from by kernel_rfl).trans (eq x0 x1 hw)
theorem known : Seen Tryz.prog 55 fs := ⟨sound, _, Tryz.func55, by kernel_rfl, by kernel_rfl⟩
end laws_eqRpc
namespace laws_eqRpcS
noncomputable def fs : FS := ⟨[(.val (.sl 113 tyS26) .f), (.val (.sl 113 tyS26) .f)], [(.bool, .o)], fun _ => true, fun x => ((), ((laws_eqRpcS x.1 x.2.1), ()))⟩
noncomputable def E : Env := ⟨theta, [(55, laws_eqRpc.fs)], []⟩
noncomputable def sh4 : ShSt := ⟨((.one (.dat (.sl 113 tyS26))) :: (.one (.dat (.sl 113 tyS26))) :: uu :: uu :: uu :: ui :: un 21 []), []⟩
noncomputable def outs4 : List OutC := [⟨.ret, ⟨0, [4], []⟩, ⟨(un 4 ((.one (.dat .bool)) :: un 22 [])), []⟩⟩, ⟨(.exit 0), ⟨0, [], []⟩, ⟨(un 27 []), []⟩⟩]
noncomputable def L4 : LC := ⟨4, ⟨4, [0, 1, 5], []⟩, sh4, outs4, pre4, fn4⟩
noncomputable def H : List LC := [L4]
noncomputable def code (i : Nat) : Code := (loopsOf (bodyOf Tryz.f148)).getD i .skip
theorem lok4 : LoopOk E H (code 0) L4 := ⟨mu4, fun ⟨x1, x2, x3, ()⟩ hp => rounds_ok (show L4.step E H (code 0) (x1, (x2, (x3, ()))) = raw4 x1 x2 x3 from by kernel_rfl) (ok4 x1 x2 x3 hp)⟩
theorem env : EnvOk Tryz.prog E := env_cons laws_eqRpc.known (env_nil tys)
theorem loops : ∀ c, Tryz.f148.body = some c → LoopsOk E H c := loops_of (by kernel_rfl) (by kernel_rfl) fun i l h => match i, h with
  | 0, h => Option.some.inj h ▸ lok4
  | n + 1, h => by cases h
theorem sound : Sound Tryz.prog 148 fs := fn_sound env mixed Tryz.func148 H loops fun ⟨x0, x1, ()⟩ hw _ => (show runFn E H Tryz.f148 fs.ps fs.rs (x0, (x1, ())) = raw x0 x1 from by kernel_rfl).trans (eq x0 x1 hw)
theorem known : Seen Tryz.prog 148 fs := ⟨sound, _, Tryz.func148, by kernel_rfl, by kernel_rfl⟩
end laws_eqRpcS
namespace laws_eqPeer
noncomputable def fs : FS := ⟨[(.val tyS23 .f), (.val tyS23 .f)], [(.bool, .o)], fun _ => true, fun x => ((), ((laws_eqPeer x.1 x.2.1), ()))⟩
noncomputable def E : Env := ⟨theta, [(146, laws_eqIntS.fs), (59, laws_eqKeep.fs), (70, laws_eqHard.fs), (145, laws_eqBoolS.fs), (147, laws_eqDisk.fs), (148, laws_eqRpcS.fs)], []⟩
noncomputable def H : List LC := []
theorem env : EnvOk Tryz.prog E := env_cons laws_eqIntS.known (env_cons laws_eqKeep.known (env_cons laws_eqHard.known (env_cons laws_eqBoolS.known (env_cons laws_eqDisk.known (env_cons laws_eqRpcS.known (env_nil tys))))))
theorem loops : ∀ c, Tryz.f46.body = some c → LoopsOk E H c := loops_none (by kernel_rfl)
theorem sound : Sound Tryz.prog 46 fs := fn_sound env mixed Tryz.func46 H loops fun ⟨x0, x1, ()⟩ hw _ => (show runFn E H Tryz.f46 fs.ps fs.rs (x0, (x1, ())) = raw x0 x1 from by kernel_rfl).trans (eq x0 x1 hw)
theorem known : Seen Tryz.prog 46 fs := ⟨sound, _, Tryz.func46, by kernel_rfl, by kernel_rfl⟩
end laws_eqPeer
namespace laws_heldEntryS
noncomputable def fs : FS := ⟨[(.val (.sl 167 tyS22) .f), (.val (.int .i64) .f)], [((.int .i64), .o)], fun x => laws_heldEntryS.pre x.1 x.2.1, fun x => ((), ((laws_heldEntryS x.1 x.2.1), ()))⟩
noncomputable def E : Env := ⟨theta, [(184, laws_markText.fs)], []⟩
noncomputable def sh2 : ShSt := ⟨((.one (.dat (.sl 167 tyS22))) :: ui :: uu :: uu :: uu :: ui :: un 98 []), []⟩
noncomputable def outs2 : List OutC := [⟨.ret, ⟨0, [4], []⟩, ⟨(un 4 (ui :: un 99 [])), []⟩⟩, ⟨(.exit 0), ⟨0, [1], []⟩, ⟨(uu :: ui :: un 102 []), []⟩⟩]
noncomputable def L2 : LC := ⟨2, ⟨2, [0, 1, 5], []⟩, sh2, outs2, pre2, fn2⟩
noncomputable def H : List LC := [L2]
noncomputable def code (i : Nat) : Code := (loopsOf (bodyOf Tryz.f251)).getD i .skip
theorem lok2 : LoopOk E H (code 0) L2 := ⟨mu2, fun ⟨x1, x2, x3, ()⟩ hp => rounds_ok (show L2.step E H (code 0) (x1, (x2, (x3, ()))) = raw2 x1 x2 x3 from by kernel_rfl) (ok2 x1 x2 x3 hp)⟩
theorem env : EnvOk Tryz.prog E := env_cons laws_markText.known (env_nil tys)
theorem loops : ∀ c, Tryz.f251.body = some c → LoopsOk E H c := loops_of (by kernel_rfl) (by kernel_rfl) fun i l h => match i, h with
  | 0, h => Option.some.inj h ▸ lok2
  | n + 1, h => by cases h
theorem sound : Sound Tryz.prog 251 fs := fn_sound env mixed Tryz.func251 H loops fun ⟨x0, x1, ()⟩ hw hp => (show runFn E H Tryz.f251 fs.ps fs.rs (x0, (x1, ())) = raw x0 x1 from by kernel_rfl).trans (eq x0 x1 hw hp)
theorem known : Seen Tryz.prog 251 fs := ⟨sound, _, Tryz.func251, by kernel_rfl, by kernel_rfl⟩
end laws_heldEntryS
namespace laws_heldLog
noncomputable def fs : FS := ⟨[(.val tyS212 .f), (.val (.int .i64) .f)], [((.int .i64), .o)], fun x => laws_heldLog.pre x.1 x.2.1, fun x => ((), ((laws_heldLog x.1 x.2.1), ()))⟩
noncomputable def E : Env := ⟨theta, [(251, laws_heldEntryS.fs)], []⟩
noncomputable def H : List LC := []
theorem env : EnvOk Tryz.prog E := env_cons laws_heldEntryS.known (env_nil tys)
theorem loops : ∀ c, Tryz.f193.body = some c → LoopsOk E H c := loops_none (by kernel_rfl)
theorem sound : Sound Tryz.prog 193 fs := fn_sound env mixed Tryz.func193 H loops fun ⟨x0, x1, ()⟩ hw hp => (show runFn E H Tryz.f193 fs.ps fs.rs (x0, (x1, ())) = raw x0 x1 from by kernel_rfl).trans (eq x0 x1 hw hp)
theorem known : Seen Tryz.prog 193 fs := ⟨sound, _, Tryz.func193, by kernel_rfl, by kernel_rfl⟩
end laws_heldLog
namespace laws_heldItemS
noncomputable def fs : FS := ⟨[(.val (.sl 44 tyS213) .f), (.val (.int .i64) .f)], [((.int .i64), .o)], fun x => laws_heldItemS.pre x.1 x.2.1, fun x => ((), ((laws_heldItemS x.1 x.2.1), ()))⟩
noncomputable def E : Env := ⟨theta, [(184, laws_markText.fs)], []⟩
noncomputable def sh2 : ShSt := ⟨((.one (.dat (.sl 44 tyS213))) :: ui :: uu :: uu :: uu :: ui :: un 54 []), []⟩
noncomputable def outs2 : List OutC := [⟨.ret, ⟨0, [4], []⟩, ⟨(un 4 (ui :: un 55 [])), []⟩⟩, ⟨(.exit 0), ⟨0, [1], []⟩, ⟨(uu :: ui :: un 58 []), []⟩⟩]
noncomputable def L2 : LC := ⟨2, ⟨2, [0, 1, 5], []⟩, sh2, outs2, pre2, fn2⟩
noncomputable def H : List LC := [L2]
noncomputable def code (i : Nat) : Code := (loopsOf (bodyOf Tryz.f275)).getD i .skip
theorem lok2 : LoopOk E H (code 0) L2 := ⟨mu2, fun ⟨x1, x2, x3, ()⟩ hp => rounds_ok (show L2.step E H (code 0) (x1, (x2, (x3, ()))) = raw2 x1 x2 x3 from by kernel_rfl) (ok2 x1 x2 x3 hp)⟩
theorem env : EnvOk Tryz.prog E := env_cons laws_markText.known (env_nil tys)
theorem loops : ∀ c, Tryz.f275.body = some c → LoopsOk E H c := loops_of (by kernel_rfl) (by kernel_rfl) fun i l h => match i, h with
  | 0, h => Option.some.inj h ▸ lok2
  | n + 1, h => by cases h
theorem sound : Sound Tryz.prog 275 fs := fn_sound env mixed Tryz.func275 H loops fun ⟨x0, x1, ()⟩ hw hp => (show runFn E H Tryz.f275 fs.ps fs.rs (x0, (x1, ())) = raw x0 x1 from by kernel_rfl).trans (eq x0 x1 hw hp)
theorem known : Seen Tryz.prog 275 fs := ⟨sound, _, Tryz.func275, by kernel_rfl, by kernel_rfl⟩
end laws_heldItemS
namespace laws_heldRowS
noncomputable def fs : FS := ⟨[(.val (.sl 42 tyS27) .f), (.val (.int .i64) .f)], [((.int .i64), .o)], fun x => laws_heldRowS.pre x.1 x.2.1, fun x => ((), ((laws_heldRowS x.1 x.2.1), ()))⟩
noncomputable def E : Env := ⟨theta, [(275, laws_heldItemS.fs)], []⟩
noncomputable def sh2 : ShSt := ⟨((.one (.dat (.sl 42 tyS27))) :: ui :: uu :: uu :: uu :: ui :: un 34 []), []⟩
noncomputable def outs2 : List OutC := [⟨.ret, ⟨0, [4], []⟩, ⟨(un 4 (ui :: un 35 [])), []⟩⟩, ⟨(.exit 0), ⟨0, [1], []⟩, ⟨(uu :: ui :: un 38 []), []⟩⟩]
noncomputable def L2 : LC := ⟨2, ⟨2, [0, 1, 5], []⟩, sh2, outs2, pre2, fn2⟩
noncomputable def H : List LC := [L2]
noncomputable def code (i : Nat) : Code := (loopsOf (bodyOf Tryz.f188)).getD i .skip
theorem lok2 : LoopOk E H (code 0) L2 := ⟨mu2, fun ⟨x1, x2, x3, ()⟩ hp => rounds_ok (show L2.step E H (code 0) (x1, (x2, (x3, ()))) = raw2 x1 x2 x3 from by kernel_rfl) (ok2 x1 x2 x3 hp)⟩
theorem env : EnvOk Tryz.prog E := env_cons laws_heldItemS.known (env_nil tys)
theorem loops : ∀ c, Tryz.f188.body = some c → LoopsOk E H c := loops_of (by kernel_rfl) (by kernel_rfl) fun i l h => match i, h with
  | 0, h => Option.some.inj h ▸ lok2
  | n + 1, h => by cases h
theorem sound : Sound Tryz.prog 188 fs := fn_sound env mixed Tryz.func188 H loops fun ⟨x0, x1, ()⟩ hw hp => (show runFn E H Tryz.f188 fs.ps fs.rs (x0, (x1, ())) = raw x0 x1 from by kernel_rfl).trans (eq x0 x1 hw hp)
theorem known : Seen Tryz.prog 188 fs := ⟨sound, _, Tryz.func188, by kernel_rfl, by kernel_rfl⟩
end laws_heldRowS
namespace laws_heldMarkS
noncomputable def fs : FS := ⟨[(.val (.sl 254 tyS24) .f), (.val (.int .i64) .f)], [((.int .i64), .o)], fun x => laws_heldMarkS.pre x.1 x.2.1, fun x => ((), ((laws_heldMarkS x.1 x.2.1), ()))⟩
noncomputable def E : Env := ⟨theta, [], []⟩
noncomputable def sh2 : ShSt := ⟨((.one (.dat (.sl 254 tyS24))) :: ui :: uu :: uu :: uu :: ui :: un 25 []), []⟩
noncomputable def outs2 : List OutC := [⟨.ret, ⟨0, [4], []⟩, ⟨(un 4 (ui :: un 26 [])), []⟩⟩, ⟨(.exit 0), ⟨0, [1], []⟩, ⟨(uu :: ui :: un 29 []), []⟩⟩]
noncomputable def L2 : LC := ⟨2, ⟨2, [0, 1, 5], []⟩, sh2, outs2, pre2, fn2⟩
noncomputable def H : List LC := [L2]
noncomputable def code (i : Nat) : Code := (loopsOf (bodyOf Tryz.f276)).getD i .skip
theorem lok2 : LoopOk E H (code 0) L2 := ⟨mu2, fun ⟨x1, x2, x3, ()⟩ hp => rounds_ok (show L2.step E H (code 0) (x1, (x2, (x3, ()))) = raw2 x1 x2 x3 from by kernel_rfl) (ok2 x1 x2 x3 hp)⟩
theorem env : EnvOk Tryz.prog E := env_nil tys
theorem loops : ∀ c, Tryz.f276.body = some c → LoopsOk E H c := loops_of (by kernel_rfl) (by kernel_rfl) fun i l h => match i, h with
  | 0, h => Option.some.inj h ▸ lok2
  | n + 1, h => by cases h
theorem sound : Sound Tryz.prog 276 fs := fn_sound env mixed Tryz.func276 H loops fun ⟨x0, x1, ()⟩ hw hp => (show runFn E H Tryz.f276 fs.ps fs.rs (x0, (x1, ())) = raw x0 x1 from by kernel_rfl).trans (eq x0 x1 hw hp)
theorem known : Seen Tryz.prog 276 fs := ⟨sound, _, Tryz.func276, by kernel_rfl, by kernel_rfl⟩
end laws_heldMarkS
namespace laws_heldMakerS
noncomputable def fs : FS := ⟨[(.val (.sl 156 tyS28) .f), (.val (.int .i64) .f)], [((.int .i64), .o)], fun x => laws_heldMakerS.pre x.1 x.2.1, fun x => ((), ((laws_heldMakerS x.1 x.2.1), ()))⟩
noncomputable def E : Env := ⟨theta, [(276, laws_heldMarkS.fs)], []⟩
noncomputable def sh2 : ShSt := ⟨((.one (.dat (.sl 156 tyS28))) :: ui :: uu :: uu :: uu :: ui :: un 52 []), []⟩
noncomputable def outs2 : List OutC := [⟨.ret, ⟨0, [4], []⟩, ⟨(un 4 (ui :: un 53 [])), []⟩⟩, ⟨(.exit 0), ⟨0, [1], []⟩, ⟨(uu :: ui :: un 56 []), []⟩⟩]
noncomputable def L2 : LC := ⟨2, ⟨2, [0, 1, 5], []⟩, sh2, outs2, pre2, fn2⟩
noncomputable def H : List LC := [L2]
noncomputable def code (i : Nat) : Code := (loopsOf (bodyOf Tryz.f189)).getD i .skip
theorem lok2 : LoopOk E H (code 0) L2 := ⟨mu2, fun ⟨x1, x2, x3, ()⟩ hp => rounds_ok (show L2.step E H (code 0) (x1, (x2, (x3, ()))) = raw2 x1 x2 x3 from by kernel_rfl) (ok2 x1 x2 x3 hp)⟩
theorem env : EnvOk Tryz.prog E := env_cons laws_heldMarkS.known (env_nil tys)
theorem loops : ∀ c, Tryz.f189.body = some c → LoopsOk E H c := loops_of (by kernel_rfl) (by kernel_rfl) fun i l h => match i, h with
  | 0, h => Option.some.inj h ▸ lok2
  | n + 1, h => by cases h
theorem sound : Sound Tryz.prog 189 fs := fn_sound env mixed Tryz.func189 H loops fun ⟨x0, x1, ()⟩ hw hp => (show runFn E H Tryz.f189 fs.ps fs.rs (x0, (x1, ())) = raw x0 x1 from by kernel_rfl).trans (eq x0 x1 hw hp)
theorem known : Seen Tryz.prog 189 fs := ⟨sound, _, Tryz.func189, by kernel_rfl, by kernel_rfl⟩
end laws_heldMakerS
namespace laws_heldIntS
noncomputable def fs : FS := ⟨[(.val (.sl 3 (.int .i64)) .f), (.val (.int .i64) .f)], [((.int .i64), .o)], fun x => laws_heldIntS.pre x.1 x.2.1, fun x => ((), ((laws_heldIntS x.1 x.2.1), ()))⟩
noncomputable def E : Env := ⟨theta, [], []⟩
noncomputable def sh2 : ShSt := ⟨((.one (.dat (.sl 3 (.int .i64)))) :: ui :: uu :: uu :: uu :: ui :: un 15 []), []⟩
noncomputable def outs2 : List OutC := [⟨.ret, ⟨0, [4], []⟩, ⟨(un 4 (ui :: un 16 [])), []⟩⟩, ⟨(.exit 0), ⟨0, [1], []⟩, ⟨(uu :: ui :: un 19 []), []⟩⟩]
noncomputable def L2 : LC := ⟨2, ⟨2, [0, 1, 5], []⟩, sh2, outs2, pre2, fn2⟩
noncomputable def H : List LC := [L2]
noncomputable def code (i : Nat) : Code := (loopsOf (bodyOf Tryz.f154)).getD i .skip
theorem lok2 : LoopOk E H (code 0) L2 := ⟨mu2, fun ⟨x1, x2, x3, ()⟩ hp => rounds_ok (show L2.step E H (code 0) (x1, (x2, (x3, ()))) = raw2 x1 x2 x3 from by kernel_rfl) (ok2 x1 x2 x3 hp)⟩
theorem env : EnvOk Tryz.prog E := env_nil tys
theorem loops : ∀ c, Tryz.f154.body = some c → LoopsOk E H c := loops_of (by kernel_rfl) (by kernel_rfl) fun i l h => match i, h with
  | 0, h => Option.some.inj h ▸ lok2
  | n + 1, h => by cases h
theorem sound : Sound Tryz.prog 154 fs := fn_sound env mixed Tryz.func154 H loops fun ⟨x0, x1, ()⟩ hw hp => (show runFn E H Tryz.f154 fs.ps fs.rs (x0, (x1, ())) = raw x0 x1 from by kernel_rfl).trans (eq x0 x1 hw hp)
theorem known : Seen Tryz.prog 154 fs := ⟨sound, _, Tryz.func154, by kernel_rfl, by kernel_rfl⟩
end laws_heldIntS
namespace laws_heldGroupS
noncomputable def fs : FS := ⟨[(.val (.sl 159 tyS25) .f), (.val (.int .i64) .f)], [((.int .i64), .o)], fun x => laws_heldGroupS.pre x.1 x.2.1, fun x => ((), ((laws_heldGroupS x.1 x.2.1), ()))⟩
noncomputable def E : Env := ⟨theta, [(154, laws_heldIntS.fs)], []⟩
noncomputable def sh2 : ShSt := ⟨((.one (.dat (.sl 159 tyS25))) :: ui :: uu :: uu :: uu :: ui :: un 43 []), []⟩
noncomputable def outs2 : List OutC := [⟨.ret, ⟨0, [4], []⟩, ⟨(un 4 (ui :: un 44 [])), []⟩⟩, ⟨(.exit 0), ⟨0, [1], []⟩, ⟨(uu :: ui :: un 47 []), []⟩⟩]
noncomputable def L2 : LC := ⟨2, ⟨2, [0, 1, 5], []⟩, sh2, outs2, pre2, fn2⟩
noncomputable def H : List LC := [L2]
noncomputable def code (i : Nat) : Code := (loopsOf (bodyOf Tryz.f190)).getD i .skip
theorem lok2 : LoopOk E H (code 0) L2 := ⟨mu2, fun ⟨x1, x2, x3, ()⟩ hp => rounds_ok (show L2.step E H (code 0) (x1, (x2, (x3, ()))) = raw2 x1 x2 x3 from by kernel_rfl) (ok2 x1 x2 x3 hp)⟩
theorem env : EnvOk Tryz.prog E := env_cons laws_heldIntS.known (env_nil tys)
theorem loops : ∀ c, Tryz.f190.body = some c → LoopsOk E H c := loops_of (by kernel_rfl) (by kernel_rfl) fun i l h => match i, h with
  | 0, h => Option.some.inj h ▸ lok2
  | n + 1, h => by cases h
theorem sound : Sound Tryz.prog 190 fs := fn_sound env mixed Tryz.func190 H loops fun ⟨x0, x1, ()⟩ hw hp => (show runFn E H Tryz.f190 fs.ps fs.rs (x0, (x1, ())) = raw x0 x1 from by kernel_rfl).trans (eq x0 x1 hw hp)
theorem known : Seen Tryz.prog 190 fs := ⟨sound, _, Tryz.func190, by kernel_rfl, by kernel_rfl⟩
end laws_heldGroupS
namespace laws_heldAnswerS
noncomputable def fs : FS := ⟨[(.val (.sl 48 tyS29) .f), (.val (.int .i64) .f)], [((.int .i64), .o)], fun x => laws_heldAnswerS.pre x.1 x.2.1, fun x => ((), ((laws_heldAnswerS x.1 x.2.1), ()))⟩
noncomputable def E : Env := ⟨theta, [(184, laws_markText.fs)], []⟩
noncomputable def sh2 : ShSt := ⟨((.one (.dat (.sl 48 tyS29))) :: ui :: uu :: uu :: uu :: ui :: un 45 []), []⟩
noncomputable def outs2 : List OutC := [⟨.ret, ⟨0, [4], []⟩, ⟨(un 4 (ui :: un 46 [])), []⟩⟩, ⟨(.exit 0), ⟨0, [1], []⟩, ⟨(uu :: ui :: un 49 []), []⟩⟩]
noncomputable def L2 : LC := ⟨2, ⟨2, [0, 1, 5], []⟩, sh2, outs2, pre2, fn2⟩
noncomputable def H : List LC := [L2]
noncomputable def code (i : Nat) : Code := (loopsOf (bodyOf Tryz.f66)).getD i .skip
theorem lok2 : LoopOk E H (code 0) L2 := ⟨mu2, fun ⟨x1, x2, x3, ()⟩ hp => rounds_ok (show L2.step E H (code 0) (x1, (x2, (x3, ()))) = raw2 x1 x2 x3 from by kernel_rfl) (ok2 x1 x2 x3 hp)⟩
theorem env : EnvOk Tryz.prog E := env_cons laws_markText.known (env_nil tys)
theorem loops : ∀ c, Tryz.f66.body = some c → LoopsOk E H c := loops_of (by kernel_rfl) (by kernel_rfl) fun i l h => match i, h with
  | 0, h => Option.some.inj h ▸ lok2
  | n + 1, h => by cases h
theorem sound : Sound Tryz.prog 66 fs := fn_sound env mixed Tryz.func66 H loops fun ⟨x0, x1, ()⟩ hw hp => (show runFn E H Tryz.f66 fs.ps fs.rs (x0, (x1, ())) = raw x0 x1 from by kernel_rfl).trans (eq x0 x1 hw hp)
theorem known : Seen Tryz.prog 66 fs := ⟨sound, _, Tryz.func66, by kernel_rfl, by kernel_rfl⟩
end laws_heldAnswerS
namespace laws_heldKeep
noncomputable def fs : FS := ⟨[(.val tyS21 .f), (.val (.int .i64) .f)], [((.int .i64), .o)], fun x => laws_heldKeep.pre x.1 x.2.1, fun x => ((), ((laws_heldKeep x.1 x.2.1), ()))⟩
noncomputable def E : Env := ⟨theta, [(188, laws_heldRowS.fs), (189, laws_heldMakerS.fs), (154, laws_heldIntS.fs), (190, laws_heldGroupS.fs), (66, laws_heldAnswerS.fs)], []⟩
noncomputable def H : List LC := []
theorem env : EnvOk Tryz.prog E := env_cons laws_heldRowS.known (env_cons laws_heldMakerS.known (env_cons laws_heldIntS.known (env_cons laws_heldGroupS.known (env_cons laws_heldAnswerS.known (env_nil tys)))))
theorem loops : ∀ c, Tryz.f65.body = some c → LoopsOk E H c := loops_none (by kernel_rfl)
theorem sound : Sound Tryz.prog 65 fs := fn_sound env mixed Tryz.func65 H loops fun ⟨x0, x1, ()⟩ hw hp => (show runFn E H Tryz.f65 fs.ps fs.rs (x0, (x1, ())) = raw x0 x1 from by kernel_rfl).trans (eq x0 x1 hw hp)
theorem known : Seen Tryz.prog 65 fs := ⟨sound, _, Tryz.func65, by kernel_rfl, by kernel_rfl⟩
end laws_heldKeep
namespace laws_heldHard
noncomputable def fs : FS := ⟨[(.val (.pair (.int .i64) (.pair (.int .i64) (.pair tyS212 (.pair tyS21 .unit)))) .f), (.val (.int .i64) .f)], [((.int .i64), .o)], fun x => laws_heldHard.pre x.1 x.2.1, fun x => ((), ((laws_heldHard x.1 x.2.1), ()))⟩
noncomputable def E : Env := ⟨theta, [(193, laws_heldLog.fs), (65, laws_heldKeep.fs)], []⟩
noncomputable def H : List LC := []
theorem env : EnvOk Tryz.prog E := env_cons laws_heldLog.known (env_cons laws_heldKeep.known (env_nil tys))
theorem loops : ∀ c, Tryz.f74.body = some c → LoopsOk E H c := loops_none (by kernel_rfl)
theorem sound : Sound Tryz.prog 74 fs := fn_sound env mixed Tryz.func74 H loops fun ⟨x0, x1, ()⟩ hw hp => (show runFn E H Tryz.f74 fs.ps fs.rs (x0, (x1, ())) = raw x0 x1 from by kernel_rfl).trans (eq x0 x1 hw hp)
theorem known : Seen Tryz.prog 74 fs := ⟨sound, _, Tryz.func74, by kernel_rfl, by kernel_rfl⟩
end laws_heldHard
namespace laws_heldBoolS
noncomputable def fs : FS := ⟨[(.val (.sl 4 .bool) .f), (.val (.int .i64) .f)], [((.int .i64), .o)], fun x => laws_heldBoolS.pre x.1 x.2.1, fun x => ((), ((laws_heldBoolS x.1 x.2.1), ()))⟩
noncomputable def E : Env := ⟨theta, [], []⟩
noncomputable def sh2 : ShSt := ⟨((.one (.dat (.sl 4 .bool))) :: ui :: uu :: uu :: uu :: ui :: un 17 []), []⟩
noncomputable def outs2 : List OutC := [⟨.ret, ⟨0, [4], []⟩, ⟨(un 4 (ui :: un 18 [])), []⟩⟩, ⟨(.exit 0), ⟨0, [1], []⟩, ⟨(uu :: ui :: un 21 []), []⟩⟩]
noncomputable def L2 : LC := ⟨2, ⟨2, [0, 1, 5], []⟩, sh2, outs2, pre2, fn2⟩
noncomputable def H : List LC := [L2]
noncomputable def code (i : Nat) : Code := (loopsOf (bodyOf Tryz.f153)).getD i .skip
theorem lok2 : LoopOk E H (code 0) L2 := ⟨mu2, fun ⟨x1, x2, x3, ()⟩ hp => rounds_ok (show L2.step E H (code 0) (x1, (x2, (x3, ()))) = raw2 x1 x2 x3 from by kernel_rfl) (ok2 x1 x2 x3 hp)⟩
theorem env : EnvOk Tryz.prog E := env_nil tys
theorem loops : ∀ c, Tryz.f153.body = some c → LoopsOk E H c := loops_of (by kernel_rfl) (by kernel_rfl) fun i l h => match i, h with
  | 0, h => Option.some.inj h ▸ lok2
  | n + 1, h => by cases h
theorem sound : Sound Tryz.prog 153 fs := fn_sound env mixed Tryz.func153 H loops fun ⟨x0, x1, ()⟩ hw hp => (show runFn E H Tryz.f153 fs.ps fs.rs (x0, (x1, ())) = raw x0 x1 from by kernel_rfl).trans (eq x0 x1 hw hp)
theorem known : Seen Tryz.prog 153 fs := ⟨sound, _, Tryz.func153, by kernel_rfl, by kernel_rfl⟩
end laws_heldBoolS
namespace laws_heldByteS
noncomputable def fs : FS := ⟨[(.val (.sl 5 (.int .u8)) .f), (.val (.int .i64) .f)], [((.int .i64), .o)], fun x => laws_heldByteS.pre x.1 x.2.1, fun x => ((), ((laws_heldByteS x.1 x.2.1), ()))⟩
noncomputable def E : Env := ⟨theta, [], []⟩
noncomputable def sh2 : ShSt := ⟨((.one (.dat (.sl 5 (.int .u8)))) :: ui :: uu :: uu :: uu :: ui :: un 16 []), []⟩
noncomputable def outs2 : List OutC := [⟨.ret, ⟨0, [4], []⟩, ⟨(un 4 (ui :: un 17 [])), []⟩⟩, ⟨(.exit 0), ⟨0, [1], []⟩, ⟨(uu :: ui :: un 20 []), []⟩⟩]
noncomputable def L2 : LC := ⟨2, ⟨2, [0, 1, 5], []⟩, sh2, outs2, pre2, fn2⟩
noncomputable def H : List LC := [L2]
noncomputable def code (i : Nat) : Code := (loopsOf (bodyOf Tryz.f250)).getD i .skip
theorem lok2 : LoopOk E H (code 0) L2 := ⟨mu2, fun ⟨x1, x2, x3, ()⟩ hp => rounds_ok (show L2.step E H (code 0) (x1, (x2, (x3, ()))) = raw2 x1 x2 x3 from by kernel_rfl) (ok2 x1 x2 x3 hp)⟩
theorem env : EnvOk Tryz.prog E := env_nil tys
theorem loops : ∀ c, Tryz.f250.body = some c → LoopsOk E H c := loops_of (by kernel_rfl) (by kernel_rfl) fun i l h => match i, h with
  | 0, h => Option.some.inj h ▸ lok2
  | n + 1, h => by cases h
theorem sound : Sound Tryz.prog 250 fs := fn_sound env mixed Tryz.func250 H loops fun ⟨x0, x1, ()⟩ hw hp => (show runFn E H Tryz.f250 fs.ps fs.rs (x0, (x1, ())) = raw x0 x1 from by kernel_rfl).trans (eq x0 x1 hw hp)
theorem known : Seen Tryz.prog 250 fs := ⟨sound, _, Tryz.func250, by kernel_rfl, by kernel_rfl⟩
end laws_heldByteS
namespace laws_heldDisk
noncomputable def fs : FS := ⟨[(.val (.pair (.sl 5 (.int .u8)) (.pair (.int .i64) .unit)) .f), (.val (.int .i64) .f)], [((.int .i64), .o)], fun x => laws_heldDisk.pre x.1 x.2.1, fun x => ((), ((laws_heldDisk x.1 x.2.1), ()))⟩
noncomputable def E : Env := ⟨theta, [(250, laws_heldByteS.fs)], []⟩
noncomputable def H : List LC := []
theorem env : EnvOk Tryz.prog E := env_cons laws_heldByteS.known (env_nil tys)
theorem loops : ∀ c, Tryz.f155.body = some c → LoopsOk E H c := loops_none (by kernel_rfl)
theorem sound : Sound Tryz.prog 155 fs := fn_sound env mixed Tryz.func155 H loops fun ⟨x0, x1, ()⟩ hw hp => (show runFn E H Tryz.f155 fs.ps fs.rs (x0, (x1, ())) = raw x0 x1 from by kernel_rfl).trans (eq x0 x1 hw hp)
theorem known : Seen Tryz.prog 155 fs := ⟨sound, _, Tryz.func155, by kernel_rfl, by kernel_rfl⟩
end laws_heldDisk
namespace laws_heldRpcS
noncomputable def fs : FS := ⟨[(.val (.sl 113 tyS26) .f), (.val (.int .i64) .f)], [((.int .i64), .o)], fun x => laws_heldRpcS.pre x.1 x.2.1, fun x => ((), ((laws_heldRpcS x.1 x.2.1), ()))⟩
noncomputable def E : Env := ⟨theta, [(184, laws_markText.fs), (251, laws_heldEntryS.fs)], []⟩
noncomputable def sh2 : ShSt := ⟨((.one (.dat (.sl 113 tyS26))) :: ui :: uu :: uu :: uu :: ui :: un 100 []), []⟩
noncomputable def outs2 : List OutC := [⟨.ret, ⟨0, [4], []⟩, ⟨(un 4 (ui :: un 101 [])), []⟩⟩, ⟨(.exit 0), ⟨0, [1], []⟩, ⟨(uu :: ui :: un 104 []), []⟩⟩]
noncomputable def L2 : LC := ⟨2, ⟨2, [0, 1, 5], []⟩, sh2, outs2, pre2, fn2⟩
noncomputable def H : List LC := [L2]
noncomputable def code (i : Nat) : Code := (loopsOf (bodyOf Tryz.f156)).getD i .skip
theorem lok2 : LoopOk E H (code 0) L2 := ⟨mu2, fun ⟨x1, x2, x3, ()⟩ hp => rounds_ok (show L2.step E H (code 0) (x1, (x2, (x3, ()))) = raw2 x1 x2 x3 from by kernel_rfl) (ok2 x1 x2 x3 hp)⟩
theorem env : EnvOk Tryz.prog E := env_cons laws_markText.known (env_cons laws_heldEntryS.known (env_nil tys))
theorem loops : ∀ c, Tryz.f156.body = some c → LoopsOk E H c := loops_of (by kernel_rfl) (by kernel_rfl) fun i l h => match i, h with
  | 0, h => Option.some.inj h ▸ lok2
  | n + 1, h => by cases h
theorem sound : Sound Tryz.prog 156 fs := fn_sound env mixed Tryz.func156 H loops fun ⟨x0, x1, ()⟩ hw hp => (show runFn E H Tryz.f156 fs.ps fs.rs (x0, (x1, ())) = raw x0 x1 from by kernel_rfl).trans (eq x0 x1 hw hp)
theorem known : Seen Tryz.prog 156 fs := ⟨sound, _, Tryz.func156, by kernel_rfl, by kernel_rfl⟩
end laws_heldRpcS
namespace laws_heldPeer
noncomputable def fs : FS := ⟨[(.val tyS23 .f), (.val (.int .i64) .f)], [((.int .i64), .o)], fun x => laws_heldPeer.pre x.1 x.2.1, fun x => ((), ((laws_heldPeer x.1 x.2.1), ()))⟩
noncomputable def E : Env := ⟨theta, [(154, laws_heldIntS.fs), (65, laws_heldKeep.fs), (74, laws_heldHard.fs), (153, laws_heldBoolS.fs), (155, laws_heldDisk.fs), (156, laws_heldRpcS.fs)], []⟩
noncomputable def H : List LC := []
theorem env : EnvOk Tryz.prog E := env_cons laws_heldIntS.known (env_cons laws_heldKeep.known (env_cons laws_heldHard.known (env_cons laws_heldBoolS.known (env_cons laws_heldDisk.known (env_cons laws_heldRpcS.known (env_nil tys))))))
theorem loops : ∀ c, Tryz.f48.body = some c → LoopsOk E H c := loops_none (by kernel_rfl)
theorem sound : Sound Tryz.prog 48 fs := fn_sound env mixed Tryz.func48 H loops fun ⟨x0, x1, ()⟩ hw hp => (show runFn E H Tryz.f48 fs.ps fs.rs (x0, (x1, ())) = raw x0 x1 from by kernel_rfl).trans (eq x0 x1 hw hp)
theorem known : Seen Tryz.prog 48 fs := ⟨sound, _, Tryz.func48, by kernel_rfl, by kernel_rfl⟩
end laws_heldPeer
namespace laws_FnExactPeerNew
noncomputable def fs : FS := ⟨[(.val tyS211 .f), (.val (.int .i64) .f), (.val (.int .i64) .f)], [(.bool, .o)], fun _ => true, fun x => ((), ((laws_FnExactPeerNew x.1 x.2.1 x.2.2.1), ()))⟩
noncomputable def E : Env := ⟨theta, [(43, spec_PeerNew.fs), (47, laws_markPeer.fs), (44, laws_toSetup.fs), (45, impl_PeerNew.fs), (46, laws_eqPeer.fs), (48, laws_heldPeer.fs)], []⟩
noncomputable def H : List LC := []
theorem env : EnvOk Tryz.prog E := env_cons spec_PeerNew.known (env_cons laws_markPeer.known (env_cons laws_toSetup.known (env_cons impl_PeerNew.known (env_cons laws_eqPeer.known (env_cons laws_heldPeer.known (env_nil tys))))))
theorem loops : ∀ c, Tryz.f7.body = some c → LoopsOk E H c := loops_none (by kernel_rfl)
theorem sound : Sound Tryz.prog 7 fs := fn_sound env mixed Tryz.func7 H loops fun ⟨x0, x1, x2, ()⟩ hw _ => (show runFn E H Tryz.f7 fs.ps fs.rs (x0, (x1, (x2, ()))) = raw x0 x1 x2 from by kernel_rfl).trans (eq x0 x1 x2 hw)
theorem known : Seen Tryz.prog 7 fs := ⟨sound, _, Tryz.func7, by kernel_rfl, by kernel_rfl⟩
end laws_FnExactPeerNew
end
end Go.Aw.Pl
