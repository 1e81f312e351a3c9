import Derived.Test.YtpcdhadfpeojkaaS3a
namespace Go.Aw.Pl
open Go Go.Aw Go.Proofs
set_option linter.unusedVariables false
set_option maxRecDepth 20000
set_option maxHeartbeats 2000000
noncomputable section
namespace spec_SumOf
noncomputable def fs : FS := ⟨[(.val (.sl 5 (.int .u8)) .f)], [((.int .i64), .o)], fun _ => true, fun x => ((), ((spec_SumOf x.1), ()))⟩
noncomputable def E : Env := ⟨theta, [], []⟩
noncomputable def sh3 : ShSt := ⟨((.one (.dat (.sl 5 (.int .u8)))) :: uu :: uu :: ui :: ui :: ui :: un 22 []), []⟩
noncomputable def outs3 : List OutC := [⟨(.exit 0), ⟨0, [3, 4], []⟩, ⟨(uu :: uu :: uu :: ui :: ui :: un 23 []), []⟩⟩]
noncomputable def L3 : LC := ⟨3, ⟨3, [0, 3, 4, 5], []⟩, sh3, outs3, pre3, fn3⟩
noncomputable def H : List LC := [L3]
noncomputable def code (i : Nat) : Code := (loopsOf (bodyOf Try.f84)).getD i .skip
theorem lok3 : LoopOk E H (code 0) L3 := ⟨mu3, fun ⟨x1, x2, x3, x4, ()⟩ hp => rounds_ok (show L3.step E H (code 0) (x1, (x2, (x3, (x4, ())))) = raw3 x1 x2 x3 x4 from by kernel_rfl) (ok3 x1 x2 x3 x4 hp)⟩
theorem env : EnvOk Try.prog E := env_nil tys
theorem loops : ∀ c, Try.f84.body = some c → LoopsOk E H c := loops_of (by kernel_rfl) (by kernel_rfl) fun i l h => match i, h with
  | 0, h => Option.some.inj h ▸ lok3
  | n + 1, h => by cases h
theorem sound : Sound Try.prog 84 fs := fn_sound env mixed Try.func84 H loops fun ⟨x0, ()⟩ hw _ => (show runFn E H Try.f84 fs.ps fs.rs (x0, ()) = raw x0 from by kernel_rfl).trans (eq x0 hw)
theorem known : Seen Try.prog 84 fs := ⟨sound, _, Try.func84, by kernel_rfl, by kernel_rfl⟩
end spec_SumOf
namespace spec_l9Sum
noncomputable def fs : FS := ⟨[(.val (.sl 5 (.int .u8)) .f)], [((.sl 5 (.int .u8)), .o)], fun _ => true, fun x => ((), ((spec_l9Sum x.1), ()))⟩
noncomputable def E : Env := ⟨theta, [(84, spec_SumOf.fs)], []⟩
noncomputable def H : List LC := []
theorem env : EnvOk Try.prog E := env_cons spec_SumOf.known (env_nil tys)
theorem loops : ∀ c, Try.f45.body = some c → LoopsOk E H c := loops_none (by kernel_rfl)
theorem sound : Sound Try.prog 45 fs := fn_sound env mixed Try.func45 H loops fun ⟨x0, ()⟩ hw _ => (show runFn E H Try.f45 fs.ps fs.rs (x0, ()) = raw x0 from by kernel_rfl).trans (eq x0 hw)
theorem known : Seen Try.prog 45 fs := ⟨sound, _, Try.func45, by kernel_rfl, by kernel_rfl⟩
end spec_l9Sum
namespace spec_NoteBytes
noncomputable def fs : FS := ⟨[(.val tyS37 .f)], [((.sl 5 (.int .u8)), .o)], fun _ => true, fun x => ((), ((spec_NoteBytes x.1), ()))⟩
noncomputable def E : Env := ⟨theta, [(75, spec_PutNum.fs), (47, spec_NoteOk.fs), (74, spec_l9Body.fs), (45, spec_l9Sum.fs)], []⟩
noncomputable def H : List LC := []
theorem env : EnvOk Try.prog E := env_cons spec_PutNum.known (env_cons spec_NoteOk.known (env_cons spec_l9Body.known (env_cons spec_l9Sum.known (env_nil tys))))
theorem loops : ∀ c, Try.f40.body = some c → LoopsOk E H c := loops_none (by kernel_rfl)
theorem sound : Sound Try.prog 40 fs := fn_sound env mixed Try.func40 H loops fun ⟨x0, ()⟩ hw _ => (show runFn E H Try.f40 fs.ps fs.rs (x0, ()) = raw x0 from by kernel_rfl).trans (eq x0 hw)
theorem known : Seen Try.prog 40 fs := ⟨sound, _, Try.func40, by kernel_rfl, by kernel_rfl⟩
end spec_NoteBytes
namespace spec_l9DrawBytes
noncomputable def ob1 : List (Nat × ShO) := [(10000000, (.box (.pair (.sl 5 (.int .u8)) tyS38) (.dat (.pair (.sl 5 (.int .u8)) tyS38)))), (20000000, (.arr 5 (.int .u8)))]
noncomputable def fs : FS := ⟨[(.ref (.pair (.sl 5 (.int .u8)) tyS38) .f)], [((.sl 5 (.int .u8)), .o)], fun x => spec_l9DrawBytes.pre x.1, fun x => (((spec_l9DrawBytes x.1).1, ()), ((spec_l9DrawBytes x.1).2, ()))⟩
noncomputable def E : Env := ⟨theta, [(73, spec_l1Below.fs), (41, spec_l9DrawRight.fs), (40, spec_NoteBytes.fs)], []⟩
noncomputable def sh3 : ShSt := ⟨((.one (.bptr 10000000 [] (.pair (.sl 5 (.int .u8)) tyS38))) :: uu :: uu :: (.one (.arr 20000000)) :: ui :: un 13 []), ob1⟩
noncomputable def outs3 : List OutC := [⟨(.exit 0), ⟨0, [3, 0], [(3, (5, (.int .u8)))]⟩, ⟨((.one (.bptr 10000000 [] (.pair (.sl 5 (.int .u8)) tyS38))) :: uu :: uu :: (.one (.arr 20000000)) :: un 14 []), ob1⟩⟩]
noncomputable def L3 : LC := ⟨3, ⟨3, [0, 3, 4], [(3, (5, (.int .u8)))]⟩, sh3, outs3, pre3, fn3⟩
noncomputable def H : List LC := [L3]
noncomputable def code (i : Nat) : Code := (loopsOf (bodyOf Try.f36)).getD i .skip
theorem lok3 : LoopOk E H (code 0) L3 := ⟨mu3, fun ⟨x1, x2, x3, ()⟩ hp => rounds_ok (show L3.step E H (code 0) (x1, (x2, (x3, ()))) = raw3 x1 x2 x3 from by kernel_rfl) (ok3 x1 x2 x3 hp)⟩
theorem env : EnvOk Try.prog E := env_cons spec_l1Below.known (env_cons spec_l9DrawRight.known (env_cons spec_NoteBytes.known (env_nil tys)))
theorem loops : ∀ c, Try.f36.body = some c → LoopsOk E H c := loops_of (by kernel_rfl) (by kernel_rfl) fun i l h => match i, h with
  | 0, h => Option.some.inj h ▸ lok3
  | n + 1, h => by cases h
theorem sound : Sound Try.prog 36 fs := fn_sound env mixed Try.func36 H loops fun ⟨x0, ()⟩ hw hp => (show runFn E H Try.f36 fs.ps fs.rs (x0, ()) = raw x0 from by kernel_rfl).trans (eq x0 hw hp)
theorem known : Seen Try.prog 36 fs := ⟨sound, _, Try.func36, by kernel_rfl, by kernel_rfl⟩
end spec_l9DrawBytes
namespace impl_within
noncomputable def fs : FS := ⟨[(.val (.int .i64) .f), (.val (.int .i64) .f), (.val (.int .i64) .f)], [(.bool, .o)], fun _ => true, fun x => ((), ((impl_within x.1 x.2.1 x.2.2.1), ()))⟩
noncomputable def E : Env := ⟨theta, [], []⟩
noncomputable def H : List LC := []
theorem env : EnvOk Try.prog E := env_nil tys
theorem loops : ∀ c, Try.f37.body = some c → LoopsOk E H c := loops_none (by kernel_rfl)
theorem sound : Sound Try.prog 37 fs := fn_sound env mixed Try.func37 H loops fun ⟨x0, x1, x2, ()⟩ hw _ => (show runFn E H Try.f37 fs.ps fs.rs (x0, (x1, (x2, ()))) = raw x0 x1 x2 from by kernel_rfl).trans (eq x0 x1 x2 hw)
theorem known : Seen Try.prog 37 fs := ⟨sound, _, Try.func37, by kernel_rfl, by kernel_rfl⟩
end impl_within
namespace spec_l7Dent
noncomputable def fs : FS := ⟨[(.ref (.pair (.sl 5 (.int .u8)) tyS38) .f), (.val (.sl 5 (.int .u8)) .o)], [((.sl 5 (.int .u8)), .o)], fun x => spec_l7Dent.pre x.1 x.2.1, fun x => (((spec_l7Dent x.1 x.2.1).1, ()), ((spec_l7Dent x.1 x.2.1).2, ()))⟩
noncomputable def E : Env := ⟨theta, [(73, spec_l1Below.fs), (31, spec_l1PickInt.fs)], []⟩
noncomputable def H : List LC := []
theorem env : EnvOk Try.prog E := env_cons spec_l1Below.known (env_cons spec_l1PickInt.known (env_nil tys))
theorem loops : ∀ c, Try.f39.body = some c → LoopsOk E H c := loops_none (by kernel_rfl)
theorem sound : Sound Try.prog 39 fs := fn_sound env mixed Try.func39 H loops fun ⟨x0, x1, ()⟩ hw hp => (show runFn E H Try.f39 fs.ps fs.rs (x0, (x1, ())) = raw x0 x1 from by kernel_rfl).trans (eq x0 x1 hw hp)
theorem known : Seen Try.prog 39 fs := ⟨sound, _, Try.func39, by kernel_rfl, by kernel_rfl⟩
end spec_l7Dent
namespace spec_DrawNoteOf
noncomputable def fs : FS := ⟨[(.val (.sl 5 (.int .u8)) .f)], [((.sl 5 (.int .u8)), .o), ((.int .i64), .o)], fun x => spec_DrawNoteOf.pre x.1, fun x => ((), ((spec_DrawNoteOf x.1).1, ((spec_DrawNoteOf x.1).2, ())))⟩
noncomputable def E : Env := ⟨theta, [(29, spec_l1New.fs), (31, spec_l1PickInt.fs), (41, spec_l9DrawRight.fs), (40, spec_NoteBytes.fs), (36, spec_l9DrawBytes.fs), (39, spec_l7Dent.fs)], []⟩
noncomputable def H : List LC := []
theorem env : EnvOk Try.prog E := env_cons spec_l1New.known (env_cons spec_l1PickInt.known (env_cons spec_l9DrawRight.known (env_cons spec_NoteBytes.known (env_cons spec_l9DrawBytes.known (env_cons spec_l7Dent.known (env_nil tys))))))
theorem loops : ∀ c, Try.f19.body = some c → LoopsOk E H c := loops_none (by kernel_rfl)
theorem sound : Sound Try.prog 19 fs := fn_sound env mixed Try.func19 H loops fun ⟨x0, ()⟩ hw hp => (show runFn E H Try.f19 fs.ps fs.rs (x0, ()) = raw x0 from by kernel_rfl).trans (eq x0 hw hp)
theorem known : Seen Try.prog 19 fs := ⟨sound, _, Try.func19, by kernel_rfl, by kernel_rfl⟩
end spec_DrawNoteOf
namespace spec_GetNum
noncomputable def fs : FS := ⟨[(.val (.sl 5 (.int .u8)) .f), (.val (.int .i64) .f)], [((.int .i64), .o), ((.int .i64), .o), (.bool, .o)], fun _ => true, fun x => ((), ((spec_GetNum x.1 x.2.1).1, ((spec_GetNum x.1 x.2.1).2.1, ((spec_GetNum x.1 x.2.1).2.2, ()))))⟩
noncomputable def E : Env := ⟨theta, [], []⟩
noncomputable def sh3 : ShSt := ⟨((.one (.dat (.sl 5 (.int .u8)))) :: ui :: un 5 (ui :: ui :: un 46 [])), []⟩
noncomputable def outs3 : List OutC := [⟨.ret, ⟨0, [4, 5, 6], []⟩, ⟨(un 4 (ui :: ui :: (.one (.dat .bool)) :: un 48 [])), []⟩⟩, ⟨(.exit 0), ⟨0, [], []⟩, ⟨(un 55 []), []⟩⟩]
noncomputable def L3 : LC := ⟨3, ⟨3, [0, 1, 7, 8], []⟩, sh3, outs3, pre3, fn3⟩
noncomputable def H : List LC := [L3]
noncomputable def code (i : Nat) : Code := (loopsOf (bodyOf Try.f44)).getD i .skip
theorem lok3 : LoopOk E H (code 0) L3 := ⟨mu3, fun ⟨x1, x2, x3, x4, ()⟩ hp => rounds_ok (show L3.step E H (code 0) (x1, (x2, (x3, (x4, ())))) = raw3 x1 x2 x3 x4 from by kernel_rfl) (ok3 x1 x2 x3 x4 hp)⟩
theorem env : EnvOk Try.prog E := env_nil tys
theorem loops : ∀ c, Try.f44.body = some c → LoopsOk E H c := loops_of (by kernel_rfl) (by kernel_rfl) fun i l h => match i, h with
  | 0, h => Option.some.inj h ▸ lok3
  | n + 1, h => by cases h
theorem sound : Sound Try.prog 44 fs := fn_sound env mixed Try.func44 H loops fun ⟨x0, x1, ()⟩ hw _ => (show runFn E H Try.f44 fs.ps fs.rs (x0, (x1, ())) = raw x0 x1 from by kernel_rfl).trans (eq x0 x1 hw)
theorem known : Seen Try.prog 44 fs := ⟨sound, _, Try.func44, by kernel_rfl, by kernel_rfl⟩
end spec_GetNum
namespace spec_l7Num
noncomputable def fs : FS := ⟨[(.ref tyS312 .f)], [((.int .i64), .o)], fun _ => true, fun x => (((spec_l7Num x.1).1, ()), ((spec_l7Num x.1).2, ()))⟩
noncomputable def E : Env := ⟨theta, [(44, spec_GetNum.fs)], []⟩
noncomputable def H : List LC := []
theorem env : EnvOk Try.prog E := env_cons spec_GetNum.known (env_nil tys)
theorem loops : ∀ c, Try.f85.body = some c → LoopsOk E H c := loops_none (by kernel_rfl)
theorem sound : Sound Try.prog 85 fs := fn_sound env mixed Try.func85 H loops fun ⟨x0, ()⟩ hw _ => (show runFn E H Try.f85 fs.ps fs.rs (x0, ()) = raw x0 from by kernel_rfl).trans (eq x0 hw)
theorem known : Seen Try.prog 85 fs := ⟨sound, _, Try.func85, by kernel_rfl, by kernel_rfl⟩
end spec_l7Num
namespace spec_GetText
noncomputable def fs : FS := ⟨[(.val (.sl 5 (.int .u8)) .f), (.val (.int .i64) .f)], [(.str, .o), ((.int .i64), .o), (.bool, .o)], fun _ => true, fun x => ((), ((spec_GetText x.1 x.2.1).1, ((spec_GetText x.1 x.2.1).2.1, ((spec_GetText x.1 x.2.1).2.2, ()))))⟩
noncomputable def E : Env := ⟨theta, [(44, spec_GetNum.fs)], []⟩
noncomputable def H : List LC := []
theorem env : EnvOk Try.prog E := env_cons spec_GetNum.known (env_nil tys)
theorem loops : ∀ c, Try.f116.body = some c → LoopsOk E H c := loops_none (by kernel_rfl)
theorem sound : Sound Try.prog 116 fs := fn_sound env mixed Try.func116 H loops fun ⟨x0, x1, ()⟩ hw _ => (show runFn E H Try.f116 fs.ps fs.rs (x0, (x1, ())) = raw x0 x1 from by kernel_rfl).trans (eq x0 x1 hw)
theorem known : Seen Try.prog 116 fs := ⟨sound, _, Try.func116, by kernel_rfl, by kernel_rfl⟩
end spec_GetText
namespace spec_l7Text
noncomputable def fs : FS := ⟨[(.ref tyS312 .f)], [(.str, .o)], fun _ => true, fun x => (((spec_l7Text x.1).1, ()), ((spec_l7Text x.1).2, ()))⟩
noncomputable def E : Env := ⟨theta, [(116, spec_GetText.fs)], []⟩
noncomputable def H : List LC := []
theorem env : EnvOk Try.prog E := env_cons spec_GetText.known (env_nil tys)
theorem loops : ∀ c, Try.f87.body = some c → LoopsOk E H c := loops_none (by kernel_rfl)
theorem sound : Sound Try.prog 87 fs := fn_sound env mixed Try.func87 H loops fun ⟨x0, ()⟩ hw _ => (show runFn E H Try.f87 fs.ps fs.rs (x0, ()) = raw x0 from by kernel_rfl).trans (eq x0 hw)
theorem known : Seen Try.prog 87 fs := ⟨sound, _, Try.func87, by kernel_rfl, by kernel_rfl⟩
end spec_l7Text
namespace spec_l7Cmd
noncomputable def fs : FS := ⟨[(.ref tyS312 .f)], [(tyS32, .o)], fun _ => true, fun x => (((spec_l7Cmd x.1).1, ()), ((spec_l7Cmd x.1).2, ()))⟩
noncomputable def E : Env := ⟨theta, [(85, spec_l7Num.fs), (87, spec_l7Text.fs)], []⟩
noncomputable def H : List LC := []
theorem env : EnvOk Try.prog E := env_cons spec_l7Num.known (env_cons spec_l7Text.known (env_nil tys))
theorem loops : ∀ c, Try.f86.body = some c → LoopsOk E H c := loops_none (by kernel_rfl)
theorem sound : Sound Try.prog 86 fs := fn_sound env mixed Try.func86 H loops fun ⟨x0, ()⟩ hw _ => (show runFn E H Try.f86 fs.ps fs.rs (x0, ()) = raw x0 from by kernel_rfl).trans (eq x0 hw)
theorem known : Seen Try.prog 86 fs := ⟨sound, _, Try.func86, by kernel_rfl, by kernel_rfl⟩
end spec_l7Cmd
namespace spec_l9Read
noncomputable def ob1 : List (Nat × ShO) := [(10000000, (.box tyS312 (.dat tyS312))), (0, (.box tyS37 (.pair (.dat (.int .i64)) (.pair (.dat (.int .i64)) (.pair (.dat (.int .i64)) (.pair (.dat (.int .i64)) (.pair (.arr 20000000) (.dat (.pair .str .unit))))))))), (20000000, (.arr 89 (.pair (.int .i64) (.pair tyS32 .unit)))), (8224, (.box tyS37 (.pair (.dat (.int .i64)) (.pair (.dat (.int .i64)) (.pair (.dat (.int .i64)) (.pair (.dat (.int .i64)) (.pair (.arr 20000001) (.dat (.pair .str .unit))))))))), (20000001, (.arr 89 (.pair (.int .i64) (.pair tyS32 .unit))))]
noncomputable def fs : FS := ⟨[(.ref tyS312 .f)], [(tyS37, .o)], fun x => spec_l9Read.pre x.1, fun x => (((spec_l9Read x.1).1, ()), ((spec_l9Read x.1).2, ()))⟩
noncomputable def E : Env := ⟨theta, [(85, spec_l7Num.fs), (87, spec_l7Text.fs), (86, spec_l7Cmd.fs)], []⟩
noncomputable def sh8 : ShSt := ⟨((.one (.bptr 10000000 [] tyS312)) :: uu :: (.one (.bptr 0 [] tyS37)) :: (.one (.bptr 8224 [] tyS37)) :: ui :: ui :: un 45 []), ob1⟩
noncomputable def outs8 : List OutC := [⟨(.exit 0), ⟨0, [0, 2, 3], []⟩, ⟨((.one (.bptr 10000000 [] tyS312)) :: uu :: (.one (.bptr 0 [] tyS37)) :: (.one (.bptr 8224 [] tyS37)) :: un 47 []), ob1⟩⟩]
noncomputable def L8 : LC := ⟨8, ⟨8, [0, 2, 3, 4, 5], []⟩, sh8, outs8, pre8, fn8⟩
noncomputable def H : List LC := [L8]
noncomputable def code (i : Nat) : Code := (loopsOf (bodyOf Try.f46)).getD i .skip
theorem lok8 : LoopOk E H (code 0) L8 := ⟨mu8, fun ⟨x1, x2, x3, x4, x5, x6, x7, x8, x9, x10, x11, x12, x13, x14, x15, ()⟩ hp => rounds_ok (show L8.step E H (code 0) (x1, (x2, (x3, (x4, (x5, (x6, (x7, (x8, (x9, (x10, (x11, (x12, (x13, (x14, (x15, ()))))))))))))))) = raw8 x1 x2 x3 x4 x5 x6 x7 x8 x9 x10 x11 x12 x13 x14 x15 from by kernel_rfl) (ok8 x1 x2 x3 x4 x5 x6 x7 x8 x9 x10 x11 x12 x13 x14 x15 hp)⟩
theorem env : EnvOk Try.prog E := env_cons spec_l7Num.known (env_cons spec_l7Text.known (env_cons spec_l7Cmd.known (env_nil tys)))
theorem loops : ∀ c, Try.f46.body = some c → LoopsOk E H c := loops_of (by kernel_rfl) (by kernel_rfl) fun i l h => match i, h with
  | 0, h => Option.some.inj h ▸ lok8
  | n + 1, h => by cases h
theorem sound : Sound Try.prog 46 fs := fn_sound env mixed Try.func46 H loops fun ⟨x0, ()⟩ hw hp => (show runFn E H Try.f46 fs.ps fs.rs (x0, ()) = raw x0 from by kernel_rfl).trans (eq x0 hw hp)
theorem known : Seen Try.prog 46 fs := ⟨sound, _, Try.func46, by kernel_rfl, by kernel_rfl⟩
end spec_l9Read
namespace spec_NoteOf
noncomputable def fs : FS := ⟨[(.val (.sl 5 (.int .u8)) .f), (.val (.int .i64) .f)], [(tyS37, .o), ((.int .i64), .o), (.bool, .o)], fun x => spec_NoteOf.pre x.1 x.2.1, fun x => ((), ((spec_NoteOf x.1 x.2.1).1, ((spec_NoteOf x.1 x.2.1).2.1, ((spec_NoteOf x.1 x.2.1).2.2, ()))))⟩
noncomputable def E : Env := ⟨theta, [(47, spec_NoteOk.fs), (45, spec_l9Sum.fs), (44, spec_GetNum.fs), (46, spec_l9Read.fs)], []⟩
noncomputable def H : List LC := []
theorem env : EnvOk Try.prog E := env_cons spec_NoteOk.known (env_cons spec_l9Sum.known (env_cons spec_GetNum.known (env_cons spec_l9Read.known (env_nil tys))))
theorem loops : ∀ c, Try.f21.body = some c → LoopsOk E H c := loops_none (by kernel_rfl)
theorem sound : Sound Try.prog 21 fs := fn_sound env mixed Try.func21 H loops fun ⟨x0, x1, ()⟩ hw hp => (show runFn E H Try.f21 fs.ps fs.rs (x0, (x1, ())) = raw x0 x1 from by kernel_rfl).trans (eq x0 x1 hw hp)
theorem known : Seen Try.prog 21 fs := ⟨sound, _, Try.func21, by kernel_rfl, by kernel_rfl⟩
end spec_NoteOf
namespace laws_at
noncomputable def fs : FS := ⟨[(.val (.sl 5 (.int .u8)) .f), (.val (.int .i64) .f)], [((.int .i64), .o)], fun x => laws_at.pre x.1 x.2.1, fun x => ((), ((laws_at x.1 x.2.1), ()))⟩
noncomputable def E : Env := ⟨theta, [], []⟩
noncomputable def H : List LC := []
theorem env : EnvOk Try.prog E := env_nil tys
theorem loops : ∀ c, Try.f22.body = some c → LoopsOk E H c := loops_none (by kernel_rfl)
theorem sound : Sound Try.prog 22 fs := fn_sound env mixed Try.func22 H loops fun ⟨x0, x1, ()⟩ hw hp => (show runFn E H Try.f22 fs.ps fs.rs (x0, (x1, ())) = raw x0 x1 from by kernel_rfl).trans (eq x0 x1 hw hp)
theorem known : Seen Try.prog 22 fs := ⟨sound, _, Try.func22, by kernel_rfl, by kernel_rfl⟩
end laws_at
namespace impl_GetNum
noncomputable def fs : FS := ⟨[(.val (.sl 5 (.int .u8)) .f), (.val (.int .i64) .f)], [((.int .i64), .o), ((.int .i64), .o), (.bool, .o)], fun _ => true, fun x => ((), ((impl_GetNum x.1 x.2.1).1, ((impl_GetNum x.1 x.2.1).2.1, ((impl_GetNum x.1 x.2.1).2.2, ()))))⟩
noncomputable def E : Env := ⟨theta, [], []⟩
noncomputable def sh5 : ShSt := ⟨((.one (.dat (.sl 5 (.int .u8)))) :: ui :: un 5 (ui :: ui :: un 50 [])), []⟩
noncomputable def outs5 : List OutC := [⟨.ret, ⟨0, [4, 5, 6], []⟩, ⟨(un 4 (ui :: ui :: (.one (.dat .bool)) :: un 52 [])), []⟩⟩, ⟨(.exit 0), ⟨0, [], []⟩, ⟨(un 59 []), []⟩⟩]
noncomputable def L5 : LC := ⟨5, ⟨5, [0, 1, 7, 8], []⟩, sh5, outs5, pre5, fn5⟩
noncomputable def H : List LC := [L5]
noncomputable def code (i : Nat) : Code := (loopsOf (bodyOf Try.f42)).getD i .skip
theorem lok5 : LoopOk E H (code 0) L5 := ⟨mu5, fun ⟨x1, x2, x3, x4, ()⟩ hp => rounds_ok (show L5.step E H (code 0) (x1, (x2, (x3, (x4, ())))) = raw5 x1 x2 x3 x4 from by kernel_rfl) (ok5 x1 x2 x3 x4 hp)⟩
theorem env : EnvOk Try.prog E := env_nil tys
theorem loops : ∀ c, Try.f42.body = some c → LoopsOk E H c := loops_of (by kernel_rfl) (by kernel_rfl) fun i l h => match i, h with
  | 0, h => Option.some.inj h ▸ lok5
  | n + 1, h => by cases h
theorem sound : Sound Try.prog 42 fs := fn_sound env mixed Try.func42 H loops fun ⟨x0, x1, ()⟩ hw _ => (show runFn E H Try.f42 fs.ps fs.rs (x0, (x1, ())) = raw x0 x1 from by kernel_rfl).trans (eq x0 x1 hw)
theorem known : Seen Try.prog 42 fs := ⟨sound, _, Try.func42, by kernel_rfl, by kernel_rfl⟩
end impl_GetNum
namespace reader_num
noncomputable def fs : FS := ⟨[(.ref tyS312 .f)], [((.int .i64), .o)], fun _ => true, fun x => (((reader_num x.1).1, ()), ((reader_num x.1).2, ()))⟩
noncomputable def E : Env := ⟨theta, [(42, impl_GetNum.fs)], []⟩
noncomputable def H : List LC := []
theorem env : EnvOk Try.prog E := env_cons impl_GetNum.known (env_nil tys)
theorem loops : ∀ c, Try.f79.body = some c → LoopsOk E H c := loops_none (by kernel_rfl)
theorem sound : Sound Try.prog 79 fs := fn_sound env mixed Try.func79 H loops fun ⟨x0, ()⟩ hw _ => (show runFn E H Try.f79 fs.ps fs.rs (x0, ()) = raw x0 from by kernel_rfl).trans (eq x0 hw)
theorem known : Seen Try.prog 79 fs := ⟨sound, _, Try.func79, by kernel_rfl, by kernel_rfl⟩
end reader_num
namespace impl_GetText
noncomputable def fs : FS := ⟨[(.val (.sl 5 (.int .u8)) .f), (.val (.int .i64) .f)], [(.str, .o), ((.int .i64), .o), (.bool, .o)], fun _ => true, fun x => ((), ((impl_GetText x.1 x.2.1).1, ((impl_GetText x.1 x.2.1).2.1, ((impl_GetText x.1 x.2.1).2.2, ()))))⟩
noncomputable def E : Env := ⟨theta, [(42, impl_GetNum.fs)], []⟩
noncomputable def H : List LC := []
theorem env : EnvOk Try.prog E := env_cons impl_GetNum.known (env_nil tys)
theorem loops : ∀ c, Try.f115.body = some c → LoopsOk E H c := loops_none (by kernel_rfl)
theorem sound : Sound Try.prog 115 fs := fn_sound env mixed Try.func115 H loops fun ⟨x0, x1, ()⟩ hw _ => (show runFn E H Try.f115 fs.ps fs.rs (x0, (x1, ())) = raw x0 x1 from by kernel_rfl).trans (eq x0 x1 hw)
theorem known : Seen Try.prog 115 fs := ⟨sound, _, Try.func115, by kernel_rfl, by kernel_rfl⟩
end impl_GetText
namespace reader_text
noncomputable def fs : FS := ⟨[(.ref tyS312 .f)], [(.str, .o)], fun _ => true, fun x => (((reader_text x.1).1, ()), ((reader_text x.1).2, ()))⟩
noncomputable def E : Env := ⟨theta, [(115, impl_GetText.fs)], []⟩
noncomputable def H : List LC := []
theorem env : EnvOk Try.prog E := env_cons impl_GetText.known (env_nil tys)
theorem loops : ∀ c, Try.f83.body = some c → LoopsOk E H c := loops_none (by kernel_rfl)
theorem sound : Sound Try.prog 83 fs := fn_sound env mixed Try.func83 H loops fun ⟨x0, ()⟩ hw _ => (show runFn E H Try.f83 fs.ps fs.rs (x0, ()) = raw x0 from by kernel_rfl).trans (eq x0 hw)
theorem known : Seen Try.prog 83 fs := ⟨sound, _, Try.func83, by kernel_rfl, by kernel_rfl⟩
end reader_text
namespace impl_wordsOk
noncomputable def fs : FS := ⟨[(.val .str .f)], [(.bool, .o)], fun _ => true, fun x => ((), ((impl_wordsOk x.1), ()))⟩
noncomputable def E : Env := ⟨theta, [], []⟩
noncomputable def sh2 : ShSt := ⟨((.one (.dat .str)) :: uu :: uu :: ui :: un 31 []), []⟩
noncomputable def outs2 : List OutC := [⟨.ret, ⟨0, [2], []⟩, ⟨(uu :: uu :: (.one (.dat .bool)) :: un 32 []), []⟩⟩, ⟨(.exit 0), ⟨0, [0], []⟩, ⟨((.one (.dat .str)) :: un 34 []), []⟩⟩]
noncomputable def L2 : LC := ⟨2, ⟨2, [0, 3], []⟩, sh2, outs2, pre2, fn2⟩
noncomputable def H : List LC := [L2]
noncomputable def code (i : Nat) : Code := (loopsOf (bodyOf Try.f119)).getD i .skip
theorem lok2 : LoopOk E H (code 0) L2 := ⟨mu2, fun ⟨x1, x2, ()⟩ hp => rounds_ok (show L2.step E H (code 0) (x1, (x2, ())) = raw2 x1 x2 from by kernel_rfl) (ok2 x1 x2 hp)⟩
theorem env : EnvOk Try.prog E := env_nil tys
theorem loops : ∀ c, Try.f119.body = some c → LoopsOk E H c := loops_of (by kernel_rfl) (by kernel_rfl) fun i l h => match i, h with
  | 0, h => Option.some.inj h ▸ lok2
  | n + 1, h => by cases h
theorem sound : Sound Try.prog 119 fs := fn_sound env mixed Try.func119 H loops fun ⟨x0, ()⟩ hw _ => (show runFn E H Try.f119 fs.ps fs.rs (x0, ()) = raw x0 from by kernel_rfl).trans (eq x0 hw)
theorem known : Seen Try.prog 119 fs := ⟨sound, _, Try.func119, by kernel_rfl, by kernel_rfl⟩
end impl_wordsOk
namespace impl_CmdOk
noncomputable def fs : FS := ⟨[(.val tyS32 .f)], [(.bool, .o)], fun _ => true, fun x => ((), ((impl_CmdOk x.1), ()))⟩
noncomputable def E : Env := ⟨theta, [(37, impl_within.fs), (119, impl_wordsOk.fs)], []⟩
noncomputable def H : List LC := []
theorem env : EnvOk Try.prog E := env_cons impl_within.known (env_cons impl_wordsOk.known (env_nil tys))
theorem loops : ∀ c, Try.f91.body = some c → LoopsOk E H c := loops_none (by kernel_rfl)
theorem sound : Sound Try.prog 91 fs := fn_sound env mixed Try.func91 H loops fun ⟨x0, ()⟩ hw _ => (show runFn E H Try.f91 fs.ps fs.rs (x0, ()) = raw x0 from by kernel_rfl).trans (eq x0 hw)
theorem known : Seen Try.prog 91 fs := ⟨sound, _, Try.func91, by kernel_rfl, by kernel_rfl⟩
end impl_CmdOk
namespace reader_cmd
noncomputable def fs : FS := ⟨[(.ref tyS312 .f)], [(tyS32, .o)], fun _ => true, fun x => (((reader_cmd x.1).1, ()), ((reader_cmd x.1).2, ()))⟩
noncomputable def E : Env := ⟨theta, [(79, reader_num.fs), (83, reader_text.fs), (91, impl_CmdOk.fs)], []⟩
noncomputable def H : List LC := []
theorem env : EnvOk Try.prog E := env_cons reader_num.known (env_cons reader_text.known (env_cons impl_CmdOk.known (env_nil tys)))
theorem loops : ∀ c, Try.f82.body = some c → LoopsOk E H c := loops_none (by kernel_rfl)
theorem sound : Sound Try.prog 82 fs := fn_sound env mixed Try.func82 H loops fun ⟨x0, ()⟩ hw _ => (show runFn E H Try.f82 fs.ps fs.rs (x0, ()) = raw x0 from by kernel_rfl).trans (eq x0 hw)
theorem known : Seen Try.prog 82 fs := ⟨sound, _, Try.func82, by kernel_rfl, by kernel_rfl⟩
end reader_cmd
namespace impl_noteIn_1
noncomputable def fs : FS := ⟨[(.cell 1 tyS312), (.ref tyS312 .f), (.ref tyS37 .o)], [], fun x => impl_noteIn_1.pre x.1 x.2.1, fun x => (((impl_noteIn_1 x.1 x.2.1).1, ((impl_noteIn_1 x.1 x.2.1).2, ())), ())⟩
noncomputable def we : WEnt := ⟨81, 81, fs, [(.par 0), (.par 2)], [(.arg 0), (.of 0), (.arg 1)]⟩
noncomputable def E : Env := ⟨theta, [(79, reader_num.fs), (82, reader_cmd.fs)], []⟩
noncomputable def H : List LC := []
theorem env : EnvOk Try.prog E := env_cons reader_num.known (env_cons reader_cmd.known (env_nil tys))
theorem loops : ∀ c, Try.f81.body = some c → LoopsOk E H c := loops_none (by kernel_rfl)
theorem sound : SoundW Try.prog 81 fs we.real := fn_soundW env mixed Try.func81 H loops fun ⟨x0, x1, ()⟩ hw hp => (show runFnW E H Try.f81 fs.ps fs.rs we.real (x0, (x1, ())) = raw x0 x1 from by kernel_rfl).trans (eq x0 x1 hw hp)
theorem known : SeenW Try.prog we := ⟨sound, _, Try.func81, by kernel_rfl, by kernel_rfl⟩
end impl_noteIn_1
namespace each_noteIn_1
noncomputable def ob1 : List (Nat × ShO) := [(10000000, (.box tyS312 (.dat tyS312))), (10000064, (.box .op (.bptr 10000000 [] tyS312))), (10000128, (.box tyS37 (.pair (.dat (.int .i64)) (.pair (.dat (.int .i64)) (.pair (.dat (.int .i64)) (.pair (.dat (.int .i64)) (.pair (.arr 20000000) (.dat (.pair .str .unit))))))))), (20000000, (.arr 89 (.pair (.int .i64) (.pair tyS32 .unit))))]
noncomputable def fs : FS := ⟨[(.ref tyS312 .f), (.cell 0 tyS312), (.ref tyS37 .o)], [], fun x => each_noteIn_1.pre x.1 x.2.1, fun x => (((each_noteIn_1 x.1 x.2.1).1, ((each_noteIn_1 x.1 x.2.1).2, ())), ())⟩
noncomputable def we : WEnt := ⟨80, 81, fs, [(.par 0), (.clo 81 [1, 2])], [(.arg 0), (.cap 1 0), (.cap 1 1)]⟩
noncomputable def E : Env := ⟨theta, [(79, reader_num.fs)], [impl_noteIn_1.we]⟩
noncomputable def sh2 : ShSt := ⟨((.one (.bptr 10000000 [] tyS312)) :: (.one (.clo 81 (.pair (.bptr 10000064 [] .op) (.pair (.bptr 10000128 [] tyS37) .unit)))) :: uu :: uu :: ui :: ui :: un 16 []), ob1⟩
noncomputable def outs2 : List OutC := [⟨(.exit 0), ⟨0, [0, 1], []⟩, ⟨((.one (.bptr 10000000 [] tyS312)) :: (.one (.clo 81 (.pair (.bptr 10000064 [] .op) (.pair (.bptr 10000128 [] tyS37) .unit)))) :: un 20 []), ob1⟩⟩]
noncomputable def L2 : LC := ⟨2, ⟨2, [0, 1, 4, 5], []⟩, sh2, outs2, pre2, fn2⟩
noncomputable def H : List LC := [L2]
noncomputable def code (i : Nat) : Code := (loopsOf (bodyOf Try.f80)).getD i .skip
theorem lok2 : LoopOk E H (code 0) L2 := ⟨mu2, fun ⟨x1, x2, x3, x4, x5, x6, x7, x8, x9, ()⟩ hp => rounds_ok (show L2.step E H (code 0) (x1, (x2, (x3, (x4, (x5, (x6, (x7, (x8, (x9, ()))))))))) = raw2 x1 x2 x3 x4 x5 x6 x7 x8 x9 from by kernel_rfl) (ok2 x1 x2 x3 x4 x5 x6 x7 x8 x9 hp)⟩
theorem env : EnvOk Try.prog E := env_cons reader_num.known (env_wire impl_noteIn_1.known (env_nil tys))
theorem loops : ∀ c, Try.f80.body = some c → LoopsOk E H c := loops_of (by kernel_rfl) (by kernel_rfl) fun i l h => match i, h with
  | 0, h => Option.some.inj h ▸ lok2
  | n + 1, h => by cases h
theorem sound : SoundW Try.prog 80 fs we.real := fn_soundW env mixed Try.func80 H loops fun ⟨x0, x1, ()⟩ hw hp => (show runFnW E H Try.f80 fs.ps fs.rs we.real (x0, (x1, ())) = raw x0 x1 from by kernel_rfl).trans (eq x0 x1 hw hp)
theorem known : SeenW Try.prog we := ⟨sound, _, Try.func80, by kernel_rfl, by kernel_rfl⟩
end each_noteIn_1
namespace impl_NoteOk_1
noncomputable def fs : FS := ⟨[(.val (.pair (.int .i64) (.pair tyS32 .unit)) .f)], [(.bool, .o)], fun _ => true, fun x => ((), ((impl_NoteOk_1 x.1), ()))⟩
noncomputable def E : Env := ⟨theta, [(37, impl_within.fs), (91, impl_CmdOk.fs)], []⟩
noncomputable def H : List LC := []
theorem env : EnvOk Try.prog E := env_cons impl_within.known (env_cons impl_CmdOk.known (env_nil tys))
theorem loops : ∀ c, Try.f90.body = some c → LoopsOk E H c := loops_none (by kernel_rfl)
theorem sound : Sound Try.prog 90 fs := fn_sound env mixed Try.func90 H loops fun ⟨x0, ()⟩ hw _ => (show runFn E H Try.f90 fs.ps fs.rs (x0, ()) = raw x0 from by kernel_rfl).trans (eq x0 hw)
theorem known : Seen Try.prog 90 fs := ⟨sound, _, Try.func90, by kernel_rfl, by kernel_rfl⟩
end impl_NoteOk_1
namespace slices_IndexFunc_Entry
noncomputable def fs : FS := ⟨[(.val (.sl 89 (.pair (.int .i64) (.pair tyS32 .unit))) .f), (.fn (.pair (.int .i64) (.pair tyS32 .unit)) .bool)], [((.int .i64), .o)], fun x => slices_IndexFunc_Entry.pre x.1 x.2.1, fun x => ((), ((slices_IndexFunc_Entry x.1 x.2.1), ()))⟩
noncomputable def E : Env := ⟨theta, [], []⟩
noncomputable def sh2 : ShSt := ⟨((.one (.dat (.sl 89 (.pair (.int .i64) (.pair tyS32 .unit))))) :: (.one (.fn (.pair (.int .i64) (.pair tyS32 .unit)) .bool)) :: un 5 (ui :: ui :: un 10 [])), []⟩
noncomputable def outs2 : List OutC := [⟨.ret, ⟨0, [4], []⟩, ⟨(un 4 (ui :: un 14 [])), []⟩⟩, ⟨(.exit 0), ⟨0, [], []⟩, ⟨(un 19 []), []⟩⟩]
noncomputable def L2 : LC := ⟨2, ⟨2, [0, 1, 7, 8], []⟩, sh2, outs2, pre2, fn2⟩
noncomputable def H : List LC := [L2]
noncomputable def code (i : Nat) : Code := (loopsOf (bodyOf Try.f118)).getD i .skip
theorem lok2 : LoopOk E H (code 0) L2 := ⟨mu2, fun ⟨x1, x2, x3, x4, x5, ()⟩ hp => rounds_ok (show L2.step E H (code 0) (x1, (x2, (x3, (x4, (x5, ()))))) = raw2 x1 x2 x3 x4 x5 from by kernel_rfl) (ok2 x1 x2 x3 x4 x5 hp)⟩
theorem env : EnvOk Try.prog E := env_nil tys
theorem loops : ∀ c, Try.f118.body = some c → LoopsOk E H c := loops_of (by kernel_rfl) (by kernel_rfl) fun i l h => match i, h with
  | 0, h => Option.some.inj h ▸ lok2
  | n + 1, h => by cases h
theorem sound : Sound Try.prog 118 fs := fn_sound env mixed Try.func118 H loops fun ⟨x0, x1, ()⟩ hw hp => (show runFn E H Try.f118 fs.ps fs.rs (x0, (x1, ())) = raw x0 x1 from by kernel_rfl).trans (eq x0 x1 hw hp)
theorem known : Seen Try.prog 118 fs := ⟨sound, _, Try.func118, by kernel_rfl, by kernel_rfl⟩
end slices_IndexFunc_Entry
namespace slices_ContainsFunc_Entry
noncomputable def fs : FS := ⟨[(.val (.sl 89 (.pair (.int .i64) (.pair tyS32 .unit))) .f), (.fn (.pair (.int .i64) (.pair tyS32 .unit)) .bool)], [(.bool, .o)], fun x => slices_ContainsFunc_Entry.pre x.1 x.2.1, fun x => ((), ((slices_ContainsFunc_Entry x.1 x.2.1), ()))⟩
noncomputable def E : Env := ⟨theta, [(118, slices_IndexFunc_Entry.fs)], []⟩
noncomputable def H : List LC := []
theorem env : EnvOk Try.prog E := env_cons slices_IndexFunc_Entry.known (env_nil tys)
theorem loops : ∀ c, Try.f89.body = some c → LoopsOk E H c := loops_none (by kernel_rfl)
theorem sound : Sound Try.prog 89 fs := fn_sound env mixed Try.func89 H loops fun ⟨x0, x1, ()⟩ hw hp => (show runFn E H Try.f89 fs.ps fs.rs (x0, (x1, ())) = raw x0 x1 from by kernel_rfl).trans (eq x0 x1 hw hp)
theorem known : Seen Try.prog 89 fs := ⟨sound, _, Try.func89, by kernel_rfl, by kernel_rfl⟩
end slices_ContainsFunc_Entry
namespace impl_NoteOk
noncomputable def fs : FS := ⟨[(.val tyS37 .f)], [(.bool, .o)], fun _ => true, fun x => ((), ((impl_NoteOk x.1), ()))⟩
noncomputable def E : Env := ⟨theta, [(37, impl_within.fs), (90, impl_NoteOk_1.fs), (89, slices_ContainsFunc_Entry.fs)], []⟩
noncomputable def H : List LC := []
theorem env : EnvOk Try.prog E := env_cons impl_within.known (env_cons impl_NoteOk_1.known (env_cons slices_ContainsFunc_Entry.known (env_nil tys)))
theorem loops : ∀ c, Try.f48.body = some c → LoopsOk E H c := loops_none (by kernel_rfl)
theorem sound : Sound Try.prog 48 fs := fn_sound env mixed Try.func48 H loops fun ⟨x0, ()⟩ hw _ => (show runFn E H Try.f48 fs.ps fs.rs (x0, ()) = raw x0 from by kernel_rfl).trans (eq x0 hw)
theorem known : Seen Try.prog 48 fs := ⟨sound, _, Try.func48, by kernel_rfl, by kernel_rfl⟩
end impl_NoteOk
namespace impl_noteIn
noncomputable def fs : FS := ⟨[(.val (.sl 5 (.int .u8)) .f)], [(tyS37, .o), (.bool, .o)], fun x => impl_noteIn.pre x.1, fun x => ((), ((impl_noteIn x.1).1, ((impl_noteIn x.1).2, ())))⟩
noncomputable def E : Env := ⟨theta, [(79, reader_num.fs), (83, reader_text.fs), (48, impl_NoteOk.fs)], [each_noteIn_1.we]⟩
noncomputable def H : List LC := []
theorem env : EnvOk Try.prog E := env_cons reader_num.known (env_cons reader_text.known (env_cons impl_NoteOk.known (env_wire each_noteIn_1.known (env_nil tys))))
theorem loops : ∀ c, Try.f43.body = some c → LoopsOk E H c := loops_none (by kernel_rfl)
theorem sound : Sound Try.prog 43 fs := fn_sound env mixed Try.func43 H loops fun ⟨x0, ()⟩ hw hp => (show runFn E H Try.f43 fs.ps fs.rs (x0, ()) = raw x0 from by kernel_rfl).trans (eq x0 hw hp)
theorem known : Seen Try.prog 43 fs := ⟨sound, _, Try.func43, by kernel_rfl, by kernel_rfl⟩
end impl_noteIn
namespace impl_PutNum
noncomputable def fs : FS := ⟨[(.val (.int .i64) .f)], [((.sl 5 (.int .u8)), .o)], fun _ => true, fun x => ((), ((impl_PutNum x.1), ()))⟩
noncomputable def E : Env := ⟨theta, [(37, impl_within.fs)], []⟩
noncomputable def sh4 : ShSt := ⟨(ui :: uu :: uu :: (.one (.arr 20000000)) :: un 19 []), [(20000000, (.arr 5 (.int .u8)))]⟩
noncomputable def outs4 : List OutC := [⟨(.exit 0), ⟨0, [0, 3], [(3, (5, (.int .u8)))]⟩, ⟨(ui :: uu :: uu :: (.one (.arr 20000000)) :: un 19 []), [(20000000, (.arr 5 (.int .u8)))]⟩⟩]
noncomputable def L4 : LC := ⟨4, ⟨4, [0, 3], [(3, (5, (.int .u8)))]⟩, sh4, outs4, pre4, fn4⟩
noncomputable def H : List LC := [L4]
noncomputable def code (i : Nat) : Code := (loopsOf (bodyOf Try.f92)).getD i .skip
theorem lok4 : LoopOk E H (code 0) L4 := ⟨mu4, fun ⟨x1, x2, ()⟩ hp => rounds_ok (show L4.step E H (code 0) (x1, (x2, ())) = raw4 x1 x2 from by kernel_rfl) (ok4 x1 x2 hp)⟩
theorem env : EnvOk Try.prog E := env_cons impl_within.known (env_nil tys)
theorem loops : ∀ c, Try.f92.body = some c → LoopsOk E H c := loops_of (by kernel_rfl) (by kernel_rfl) fun i l h => match i, h with
  | 0, h => Option.some.inj h ▸ lok4
  | n + 1, h => by cases h
theorem sound : Sound Try.prog 92 fs := fn_sound env mixed Try.func92 H loops fun ⟨x0, ()⟩ hw _ => (show runFn E H Try.f92 fs.ps fs.rs (x0, ()) = raw x0 from by kernel_rfl).trans (eq x0 hw)
theorem known : Seen Try.prog 92 fs := ⟨sound, _, Try.func92, by kernel_rfl, by kernel_rfl⟩
end impl_PutNum
namespace impl_nums
noncomputable def fs : FS := ⟨[(.val (.sl 3 (.int .i64)) .f)], [((.sl 5 (.int .u8)), .o)], fun x => impl_nums.pre x.1, fun x => ((), ((impl_nums x.1), ()))⟩
noncomputable def E : Env := ⟨theta, [(92, impl_PutNum.fs)], []⟩
noncomputable def sh3 : ShSt := ⟨(uu :: uu :: uu :: (.one (.arr 20000000)) :: uu :: uu :: (.one (.dat (.sl 3 (.int .i64)))) :: ui :: ui :: un 9 []), [(20000000, (.arr 5 (.int .u8)))]⟩
noncomputable def outs3 : List OutC := [⟨(.exit 0), ⟨0, [3], [(3, (5, (.int .u8)))]⟩, ⟨(uu :: uu :: uu :: (.one (.arr 20000000)) :: un 14 []), [(20000000, (.arr 5 (.int .u8)))]⟩⟩]
noncomputable def L3 : LC := ⟨3, ⟨3, [3, 6, 7, 8], [(3, (5, (.int .u8)))]⟩, sh3, outs3, pre3, fn3⟩
noncomputable def H : List LC := [L3]
noncomputable def code (i : Nat) : Code := (loopsOf (bodyOf Try.f49)).getD i .skip
theorem lok3 : LoopOk E H (code 0) L3 := ⟨mu3, fun ⟨x1, x2, x3, x4, ()⟩ hp => rounds_ok (show L3.step E H (code 0) (x1, (x2, (x3, (x4, ())))) = raw3 x1 x2 x3 x4 from by kernel_rfl) (ok3 x1 x2 x3 x4 hp)⟩
theorem env : EnvOk Try.prog E := env_cons impl_PutNum.known (env_nil tys)
theorem loops : ∀ c, Try.f49.body = some c → LoopsOk E H c := loops_of (by kernel_rfl) (by kernel_rfl) fun i l h => match i, h with
  | 0, h => Option.some.inj h ▸ lok3
  | n + 1, h => by cases h
theorem sound : Sound Try.prog 49 fs := fn_sound env mixed Try.func49 H loops fun ⟨x0, ()⟩ hw hp => (show runFn E H Try.f49 fs.ps fs.rs (x0, ()) = raw x0 from by kernel_rfl).trans (eq x0 hw hp)
theorem known : Seen Try.prog 49 fs := ⟨sound, _, Try.func49, by kernel_rfl, by kernel_rfl⟩
end impl_nums
namespace impl_PutText
noncomputable def fs : FS := ⟨[(.val .str .f)], [((.sl 5 (.int .u8)), .o)], fun x => impl_PutText.pre x.1, fun x => ((), ((impl_PutText x.1), ()))⟩
noncomputable def E : Env := ⟨theta, [(92, impl_PutNum.fs)], []⟩
noncomputable def H : List LC := []
theorem env : EnvOk Try.prog E := env_cons impl_PutNum.known (env_nil tys)
theorem loops : ∀ c, Try.f52.body = some c → LoopsOk E H c := loops_none (by kernel_rfl)
theorem sound : Sound Try.prog 52 fs := fn_sound env mixed Try.func52 H loops fun ⟨x0, ()⟩ hw hp => (show runFn E H Try.f52 fs.ps fs.rs (x0, ()) = raw x0 from by kernel_rfl).trans (eq x0 hw hp)
theorem known : Seen Try.prog 52 fs := ⟨sound, _, Try.func52, by kernel_rfl, by kernel_rfl⟩
end impl_PutText
namespace slices_Grow_byte
noncomputable def fs : FS := ⟨[(.nil 5 (.int .u8)), (.val (.int .i64) .f)], [((.sl 5 (.int .u8)), .o)], fun x => slices_Grow_byte.pre x.1, fun x => ((), ((slices_Grow_byte x.1), ()))⟩
noncomputable def E : Env := ⟨theta, [], []⟩
noncomputable def H : List LC := []
theorem env : EnvOk Try.prog E := env_nil tys
theorem loops : ∀ c, Try.f93.body = some c → LoopsOk E H c := loops_none (by kernel_rfl)
theorem sound : Sound Try.prog 93 fs := fn_sound env mixed Try.func93 H loops fun ⟨x0, ()⟩ hw hp => (show runFn E H Try.f93 fs.ps fs.rs (x0, ()) = raw x0 from by kernel_rfl).trans (eq x0 hw hp)
theorem known : Seen Try.prog 93 fs := ⟨sound, _, Try.func93, by kernel_rfl, by kernel_rfl⟩
end slices_Grow_byte
namespace slices_Concat_byte
noncomputable def fs : FS := ⟨[(.val (.sl 22 (.sl 5 (.int .u8))) .f)], [((.sl 5 (.int .u8)), .o)], fun x => slices_Concat_byte.pre x.1, fun x => ((), ((slices_Concat_byte x.1), ()))⟩
noncomputable def E : Env := ⟨theta, [(93, slices_Grow_byte.fs)], []⟩
noncomputable def sh3 : ShSt := ⟨((.one (.dat (.sl 22 (.sl 5 (.int .u8))))) :: uu :: uu :: ui :: un 5 ((.one (.dat (.sl 22 (.sl 5 (.int .u8))))) :: ui :: ui :: un 24 [])), []⟩
noncomputable def outs3 : List OutC := [⟨(.exit 0), ⟨0, [0, 3], []⟩, ⟨((.one (.dat (.sl 22 (.sl 5 (.int .u8))))) :: uu :: uu :: ui :: un 32 []), []⟩⟩]
noncomputable def L3 : LC := ⟨3, ⟨3, [0, 3, 9, 10, 11], []⟩, sh3, outs3, pre3, fn3⟩
noncomputable def sh11 : ShSt := ⟨(un 6 ((.one (.arr 20000000)) :: un 18 ((.one (.dat (.sl 22 (.sl 5 (.int .u8))))) :: ui :: ui :: un 8 []))), [(20000000, (.arr 5 (.int .u8)))]⟩
noncomputable def outs11 : List OutC := [⟨(.exit 2), ⟨0, [6], [(6, (5, (.int .u8)))]⟩, ⟨(un 6 ((.one (.arr 20000000)) :: un 29 [])), [(20000000, (.arr 5 (.int .u8)))]⟩⟩]
noncomputable def L11 : LC := ⟨11, ⟨11, [6, 25, 26, 27], [(6, (5, (.int .u8)))]⟩, sh11, outs11, pre11, fn11⟩
noncomputable def H : List LC := [L3, L11]
noncomputable def code (i : Nat) : Code := (loopsOf (bodyOf Try.f50)).getD i .skip
theorem lok3 : LoopOk E H (code 0) L3 := ⟨mu3, fun ⟨x1, x2, x3, x4, x5, ()⟩ hp => rounds_ok (show L3.step E H (code 0) (x1, (x2, (x3, (x4, (x5, ()))))) = raw3 x1 x2 x3 x4 x5 from by kernel_rfl) (ok3 x1 x2 x3 x4 x5 hp)⟩
theorem lok11 : LoopOk E H (code 1) L11 := ⟨mu11, fun ⟨x1, x2, x3, x4, ()⟩ hp => rounds_ok (show L11.step E H (code 1) (x1, (x2, (x3, (x4, ())))) = raw11 x1 x2 x3 x4 from by kernel_rfl) (ok11 x1 x2 x3 x4 hp)⟩
theorem env : EnvOk Try.prog E := env_cons slices_Grow_byte.known (env_nil tys)
theorem loops : ∀ c, Try.f50.body = some c → LoopsOk E H c := loops_of (by kernel_rfl) (by kernel_rfl) fun i l h => match i, h with
  | 0, h => Option.some.inj h ▸ lok3
  | 1, h => Option.some.inj h ▸ lok11
  | n + 2, h => by cases h
theorem sound : Sound Try.prog 50 fs := fn_sound env mixed Try.func50 H loops fun ⟨x0, ()⟩ hw hp => (show runFn E H Try.f50 fs.ps fs.rs (x0, ()) = raw x0 from by kernel_rfl).trans (eq x0 hw hp)
theorem known : Seen Try.prog 50 fs := ⟨sound, _, Try.func50, by kernel_rfl, by kernel_rfl⟩
end slices_Concat_byte
namespace impl_CmdBytes
noncomputable def fs : FS := ⟨[(.val tyS32 .f)], [((.sl 5 (.int .u8)), .o)], fun _ => true, fun x => ((), ((impl_CmdBytes x.1), ()))⟩
noncomputable def E : Env := ⟨theta, [(91, impl_CmdOk.fs), (49, impl_nums.fs), (52, impl_PutText.fs), (50, slices_Concat_byte.fs)], []⟩
noncomputable def H : List LC := []
theorem env : EnvOk Try.prog E := env_cons impl_CmdOk.known (env_cons impl_nums.known (env_cons impl_PutText.known (env_cons slices_Concat_byte.known (env_nil tys))))
theorem loops : ∀ c, Try.f51.body = some c → LoopsOk E H c := loops_none (by kernel_rfl)
theorem sound : Sound Try.prog 51 fs := fn_sound env mixed Try.func51 H loops fun ⟨x0, ()⟩ hw _ => (show runFn E H Try.f51 fs.ps fs.rs (x0, ()) = raw x0 from by kernel_rfl).trans (eq x0 hw)
theorem known : Seen Try.prog 51 fs := ⟨sound, _, Try.func51, by kernel_rfl, by kernel_rfl⟩
end impl_CmdBytes
namespace impl_SumOf
noncomputable def fs : FS := ⟨[(.val (.sl 5 (.int .u8)) .f)], [((.int .i64), .o)], fun _ => true, fun x => ((), ((impl_SumOf x.1), ()))⟩
noncomputable def E : Env := ⟨theta, [], []⟩
noncomputable def sh3 : ShSt := ⟨(uu :: uu :: uu :: ui :: ui :: uu :: uu :: (.one (.dat (.sl 5 (.int .u8)))) :: ui :: ui :: un 17 []), []⟩
noncomputable def outs3 : List OutC := [⟨(.exit 0), ⟨0, [3, 4], []⟩, ⟨(uu :: uu :: uu :: ui :: ui :: un 22 []), []⟩⟩]
noncomputable def L3 : LC := ⟨3, ⟨3, [3, 4, 7, 8, 9], []⟩, sh3, outs3, pre3, fn3⟩
noncomputable def H : List LC := [L3]
noncomputable def code (i : Nat) : Code := (loopsOf (bodyOf Try.f53)).getD i .skip
theorem lok3 : LoopOk E H (code 0) L3 := ⟨mu3, fun ⟨x1, x2, x3, x4, x5, ()⟩ hp => rounds_ok (show L3.step E H (code 0) (x1, (x2, (x3, (x4, (x5, ()))))) = raw3 x1 x2 x3 x4 x5 from by kernel_rfl) (ok3 x1 x2 x3 x4 x5 hp)⟩
theorem env : EnvOk Try.prog E := env_nil tys
theorem loops : ∀ c, Try.f53.body = some c → LoopsOk E H c := loops_of (by kernel_rfl) (by kernel_rfl) fun i l h => match i, h with
  | 0, h => Option.some.inj h ▸ lok3
  | n + 1, h => by cases h
theorem sound : Sound Try.prog 53 fs := fn_sound env mixed Try.func53 H loops fun ⟨x0, ()⟩ hw _ => (show runFn E H Try.f53 fs.ps fs.rs (x0, ()) = raw x0 from by kernel_rfl).trans (eq x0 hw)
theorem known : Seen Try.prog 53 fs := ⟨sound, _, Try.func53, by kernel_rfl, by kernel_rfl⟩
end impl_SumOf
namespace impl_NoteBytes
noncomputable def ob1 : List (Nat × ShO) := [(0, (.box tyS37 (.dat tyS37))), (20000000, (.arr 5 (.int .u8)))]
noncomputable def fs : FS := ⟨[(.val tyS37 .f)], [((.sl 5 (.int .u8)), .o)], fun _ => true, fun x => ((), ((impl_NoteBytes x.1), ()))⟩
noncomputable def E : Env := ⟨theta, [(48, impl_NoteOk.fs), (49, impl_nums.fs), (52, impl_PutText.fs), (50, slices_Concat_byte.fs), (51, impl_CmdBytes.fs), (53, impl_SumOf.fs)], []⟩
noncomputable def sh5 : ShSt := ⟨(uu :: (.one (.bptr 0 [] tyS37)) :: uu :: (.one (.arr 20000000)) :: un 21 ((.one (.dat (.sl 89 (.pair (.int .i64) (.pair tyS32 .unit))))) :: ui :: ui :: un 40 [])), ob1⟩
noncomputable def outs5 : List OutC := [⟨(.exit 0), ⟨0, [1, 3], [(3, (5, (.int .u8)))]⟩, ⟨(uu :: (.one (.bptr 0 [] tyS37)) :: uu :: (.one (.arr 20000000)) :: un 64 []), ob1⟩⟩]
noncomputable def L5 : LC := ⟨5, ⟨5, [1, 3, 25, 26, 27], [(3, (5, (.int .u8)))]⟩, sh5, outs5, pre5, fn5⟩
noncomputable def H : List LC := [L5]
noncomputable def code (i : Nat) : Code := (loopsOf (bodyOf Try.f23)).getD i .skip
theorem lok5 : LoopOk E H (code 0) L5 := ⟨mu5, fun ⟨x1, x2, x3, x4, x5, ()⟩ hp => rounds_ok (show L5.step E H (code 0) (x1, (x2, (x3, (x4, (x5, ()))))) = raw5 x1 x2 x3 x4 x5 from by kernel_rfl) (ok5 x1 x2 x3 x4 x5 hp)⟩
theorem env : EnvOk Try.prog E := env_cons impl_NoteOk.known (env_cons impl_nums.known (env_cons impl_PutText.known (env_cons slices_Concat_byte.known (env_cons impl_CmdBytes.known (env_cons impl_SumOf.known (env_nil tys))))))
theorem loops : ∀ c, Try.f23.body = some c → LoopsOk E H c := loops_of (by kernel_rfl) (by kernel_rfl) fun i l h => match i, h with
  | 0, h => Option.some.inj h ▸ lok5
  | n + 1, h => by cases h
theorem sound : Sound Try.prog 23 fs := fn_sound env mixed Try.func23 H loops fun ⟨x0, ()⟩ hw _ => (show runFn E H Try.f23 fs.ps fs.rs (x0, ()) = raw x0 from by kernel_rfl).trans (eq x0 hw)
theorem known : Seen Try.prog 23 fs := ⟨sound, _, Try.func23, by kernel_rfl, by kernel_rfl⟩
end impl_NoteBytes
namespace impl_NoteOf
noncomputable def fs : FS := ⟨[(.val (.sl 5 (.int .u8)) .f), (.val (.int .i64) .f)], [(tyS37, .o), ((.int .i64), .o), (.bool, .o)], fun x => impl_NoteOf.pre x.1 x.2.1, fun x => ((), ((impl_NoteOf x.1 x.2.1).1, ((impl_NoteOf x.1 x.2.1).2.1, ((impl_NoteOf x.1 x.2.1).2.2, ()))))⟩
noncomputable def E : Env := ⟨theta, [(42, impl_GetNum.fs), (43, impl_noteIn.fs), (23, impl_NoteBytes.fs)], []⟩
noncomputable def H : List LC := []
theorem env : EnvOk Try.prog E := env_cons impl_GetNum.known (env_cons impl_noteIn.known (env_cons impl_NoteBytes.known (env_nil tys)))
theorem loops : ∀ c, Try.f20.body = some c → LoopsOk E H c := loops_none (by kernel_rfl)
theorem sound : Sound Try.prog 20 fs := fn_sound env mixed Try.func20 H loops fun ⟨x0, x1, ()⟩ hw hp => (show runFn E H Try.f20 fs.ps fs.rs (x0, (x1, ())) = raw x0 x1 from by kernel_rfl).trans (eq x0 x1 hw hp)
theorem known : Seen Try.prog 20 fs := ⟨sound, _, Try.func20, by kernel_rfl, by kernel_rfl⟩
end impl_NoteOf
namespace laws_FnNoSpill
noncomputable def fs : FS := ⟨[(.val (.sl 5 (.int .u8)) .f)], [(.bool, .o)], fun _ => true, fun x => ((), ((laws_FnNoSpill x.1), ()))⟩
noncomputable def E : Env := ⟨theta, [(6, laws_big.fs), (19, spec_DrawNoteOf.fs), (21, spec_NoteOf.fs), (22, laws_at.fs), (23, impl_NoteBytes.fs), (20, impl_NoteOf.fs)], []⟩
noncomputable def H : List LC := []
theorem env : EnvOk Try.prog E := env_cons laws_big.known (env_cons spec_DrawNoteOf.known (env_cons spec_NoteOf.known (env_cons laws_at.known (env_cons impl_NoteBytes.known (env_cons impl_NoteOf.known (env_nil tys))))))
theorem loops : ∀ c, Try.f4.body = some c → LoopsOk E H c := loops_none (by kernel_rfl)
theorem sound : Sound Try.prog 4 fs := fn_sound env mixed Try.func4 H loops fun ⟨x0, ()⟩ hw _ => (show runFn E H Try.f4 fs.ps fs.rs (x0, ()) = raw x0 from by kernel_rfl).trans (eq x0 hw)
theorem known : Seen Try.prog 4 fs := ⟨sound, _, Try.func4, by kernel_rfl, by kernel_rfl⟩
end laws_FnNoSpill
end
end Go.Aw.Pl
