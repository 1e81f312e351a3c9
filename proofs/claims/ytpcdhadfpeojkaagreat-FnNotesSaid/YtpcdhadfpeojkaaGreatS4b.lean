import Derived.Test.YtpcdhadfpeojkaaGreatS4a
namespace Go.Aw.Pl
open Go Go.Aw Go.Proofs
set_option linter.unusedVariables false
set_option maxRecDepth 20000
set_option maxHeartbeats 2000000
noncomputable section
namespace spec_NoteOf
noncomputable def fs : FS := ⟨[(.val (.sl 5 (.int .u8)) .f), (.val (.int .i64) .f)], [(tyS46, .o), ((.int .i64), .o), (.bool, .o)], fun x => spec_NoteOf.pre x.1 x.2.1, fun x => ((), ((spec_NoteOf x.1 x.2.1).1, ((spec_NoteOf x.1 x.2.1).2.1, ((spec_NoteOf x.1 x.2.1).2.2, ()))))⟩
noncomputable def E : Env := ⟨theta, [(29, spec_NoteOk.fs), (115, spec_l9Sum.fs), (123, spec_GetNum.fs), (124, spec_l9Read.fs)], []⟩
noncomputable def H : List LC := []
theorem env : EnvOk Tryz.prog E := env_cons spec_NoteOk.known (env_cons spec_l9Sum.known (env_cons spec_GetNum.known (env_cons spec_l9Read.known (env_nil tys))))
theorem loops : ∀ c, Tryz.f34.body = some c -> LoopsOk E H c := loops_none (by kernel_rfl)
theorem sound : Sound Tryz.prog 34 fs := fn_sound env mixed Tryz.func34 H loops fun ⟨x0, x1, ()⟩ hw hp => (show runFn E H Tryz.f34 fs.ps fs.rs (x0, (x1, ())) = raw x0 x1 from by kernel_rfl).trans (eq x0 x1 hw hp)
theorem known : Seen Tryz.prog 34 fs := ⟨sound, _, Tryz.func34, by kernel_rfl, by kernel_rfl⟩
end spec_NoteOf
namespace laws_at
noncomputable def fs : FS := ⟨[(.val (.sl 5 (.int .u8)) .f), (.val (.int .i64) .f)], [((.int .i64), .o)], fun x => laws_at.pre x.1 x.2.1, fun x => ((), ((laws_at x.1 x.2.1), ()))⟩
noncomputable def E : Env := ⟨theta, [], []⟩
noncomputable def H : List LC := []
theorem env : EnvOk Tryz.prog E := env_nil tys
theorem loops : ∀ c, Tryz.f23.body = some c -> LoopsOk E H c := loops_none (by kernel_rfl)
theorem sound : Sound Tryz.prog 23 fs := fn_sound env mixed Tryz.func23 H loops fun ⟨x0, x1, ()⟩ hw hp => (show runFn E H Tryz.f23 fs.ps fs.rs (x0, (x1, ())) = raw x0 x1 from by kernel_rfl).trans (eq x0 x1 hw hp)
theorem known : Seen Tryz.prog 23 fs := ⟨sound, _, Tryz.func23, by kernel_rfl, by kernel_rfl⟩
end laws_at
namespace impl_GetNum
noncomputable def fs : FS := ⟨[(.val (.sl 5 (.int .u8)) .f), (.val (.int .i64) .f)], [((.int .i64), .o), ((.int .i64), .o), (.bool, .o)], fun _ => true, fun x => ((), ((impl_GetNum x.1 x.2.1).1, ((impl_GetNum x.1 x.2.1).2.1, ((impl_GetNum x.1 x.2.1).2.2, ()))))⟩
noncomputable def E : Env := ⟨theta, [], []⟩
noncomputable def sh5 : ShSt := ⟨((.one (.dat (.sl 5 (.int .u8)))) :: ui :: un 5 (ui :: ui :: un 50 [])), []⟩
noncomputable def outs5 : List OutC := [⟨.ret, ⟨0, [4, 5, 6], []⟩, ⟨(un 4 (ui :: ui :: (.one (.dat .bool)) :: un 52 [])), []⟩⟩, ⟨(.exit 0), ⟨0, [], []⟩, ⟨(un 59 []), []⟩⟩]
noncomputable def L5 : LC := ⟨5, ⟨5, [0, 1, 7, 8], []⟩, sh5, outs5, pre5, fn5⟩
noncomputable def H : List LC := [L5]
noncomputable def code (i : Nat) : Code := (loopsOf (bodyOf Tryz.f35)).getD i .skip
theorem lok5 : LoopOk E H (code 0) L5 := ⟨mu5, fun ⟨x1, x2, x3, x4, ()⟩ hp => rounds_ok (show L5.step E H (code 0) (x1, (x2, (x3, (x4, ())))) = raw5 x1 x2 x3 x4 from by kernel_rfl) (ok5 x1 x2 x3 x4 hp)⟩
theorem env : EnvOk Tryz.prog E := env_nil tys
theorem loops : ∀ c, Tryz.f35.body = some c -> LoopsOk E H c := loops_of (by kernel_rfl) (by kernel_rfl) fun i l h => match i, h with
  | 0, h => Option.some.inj h ▸ lok5
  | n + 1, h => by cases h
theorem sound : Sound Tryz.prog 35 fs := fn_sound env mixed Tryz.func35 H loops fun ⟨x0, x1, ()⟩ hw _ => (show runFn E H Tryz.f35 fs.ps fs.rs (x0, (x1, ())) = raw x0 x1 from by kernel_rfl).trans (eq x0 x1 hw)
theorem known : Seen Tryz.prog 35 fs := ⟨sound, _, Tryz.func35, by kernel_rfl, by kernel_rfl⟩
end impl_GetNum
namespace reader_num
noncomputable def fs : FS := ⟨[(.ref tyS410 .f)], [((.int .i64), .o)], fun _ => true, fun x => (((reader_num x.1).1, ()), ((reader_num x.1).2, ()))⟩
noncomputable def E : Env := ⟨theta, [(35, impl_GetNum.fs)], []⟩
noncomputable def H : List LC := []
theorem env : EnvOk Tryz.prog E := env_cons impl_GetNum.known (env_nil tys)
theorem loops : ∀ c, Tryz.f228.body = some c -> LoopsOk E H c := loops_none (by kernel_rfl)
theorem sound : Sound Tryz.prog 228 fs := fn_sound env mixed Tryz.func228 H loops fun ⟨x0, ()⟩ hw _ => (show runFn E H Tryz.f228 fs.ps fs.rs (x0, ()) = raw x0 from by kernel_rfl).trans (eq x0 hw)
theorem known : Seen Tryz.prog 228 fs := ⟨sound, _, Tryz.func228, by kernel_rfl, by kernel_rfl⟩
end reader_num
namespace impl_GetText
noncomputable def fs : FS := ⟨[(.val (.sl 5 (.int .u8)) .f), (.val (.int .i64) .f)], [(.str, .o), ((.int .i64), .o), (.bool, .o)], fun _ => true, fun x => ((), ((impl_GetText x.1 x.2.1).1, ((impl_GetText x.1 x.2.1).2.1, ((impl_GetText x.1 x.2.1).2.2, ()))))⟩
noncomputable def E : Env := ⟨theta, [(35, impl_GetNum.fs)], []⟩
noncomputable def H : List LC := []
theorem env : EnvOk Tryz.prog E := env_cons impl_GetNum.known (env_nil tys)
theorem loops : ∀ c, Tryz.f309.body = some c -> LoopsOk E H c := loops_none (by kernel_rfl)
theorem sound : Sound Tryz.prog 309 fs := fn_sound env mixed Tryz.func309 H loops fun ⟨x0, x1, ()⟩ hw _ => (show runFn E H Tryz.f309 fs.ps fs.rs (x0, (x1, ())) = raw x0 x1 from by kernel_rfl).trans (eq x0 x1 hw)
theorem known : Seen Tryz.prog 309 fs := ⟨sound, _, Tryz.func309, by kernel_rfl, by kernel_rfl⟩
end impl_GetText
namespace reader_text
noncomputable def fs : FS := ⟨[(.ref tyS410 .f)], [(.str, .o)], fun _ => true, fun x => (((reader_text x.1).1, ()), ((reader_text x.1).2, ()))⟩
noncomputable def E : Env := ⟨theta, [(309, impl_GetText.fs)], []⟩
noncomputable def H : List LC := []
theorem env : EnvOk Tryz.prog E := env_cons impl_GetText.known (env_nil tys)
theorem loops : ∀ c, Tryz.f232.body = some c -> LoopsOk E H c := loops_none (by kernel_rfl)
theorem sound : Sound Tryz.prog 232 fs := fn_sound env mixed Tryz.func232 H loops fun ⟨x0, ()⟩ hw _ => (show runFn E H Tryz.f232 fs.ps fs.rs (x0, ()) = raw x0 from by kernel_rfl).trans (eq x0 hw)
theorem known : Seen Tryz.prog 232 fs := ⟨sound, _, Tryz.func232, by kernel_rfl, by kernel_rfl⟩
end reader_text
namespace impl_wordsOk
noncomputable def fs : FS := ⟨[(.val .str .f)], [(.bool, .o)], fun _ => true, fun x => ((), ((impl_wordsOk x.1), ()))⟩
noncomputable def E : Env := ⟨theta, [], []⟩
noncomputable def sh2 : ShSt := ⟨((.one (.dat .str)) :: uu :: uu :: ui :: un 31 []), []⟩
noncomputable def outs2 : List OutC := [⟨.ret, ⟨0, [2], []⟩, ⟨(uu :: uu :: (.one (.dat .bool)) :: un 32 []), []⟩⟩, ⟨(.exit 0), ⟨0, [0], []⟩, ⟨((.one (.dat .str)) :: un 34 []), []⟩⟩]
noncomputable def L2 : LC := ⟨2, ⟨2, [0, 3], []⟩, sh2, outs2, pre2, fn2⟩
noncomputable def H : List LC := [L2]
noncomputable def code (i : Nat) : Code := (loopsOf (bodyOf Tryz.f129)).getD i .skip
theorem lok2 : LoopOk E H (code 0) L2 := ⟨mu2, fun ⟨x1, x2, ()⟩ hp => rounds_ok (show L2.step E H (code 0) (x1, (x2, ())) = raw2 x1 x2 from by kernel_rfl) (ok2 x1 x2 hp)⟩
theorem env : EnvOk Tryz.prog E := env_nil tys
theorem loops : ∀ c, Tryz.f129.body = some c -> LoopsOk E H c := loops_of (by kernel_rfl) (by kernel_rfl) fun i l h => match i, h with
  | 0, h => Option.some.inj h ▸ lok2
  | n + 1, h => by cases h
theorem sound : Sound Tryz.prog 129 fs := fn_sound env mixed Tryz.func129 H loops fun ⟨x0, ()⟩ hw _ => (show runFn E H Tryz.f129 fs.ps fs.rs (x0, ()) = raw x0 from by kernel_rfl).trans (eq x0 hw)
theorem known : Seen Tryz.prog 129 fs := ⟨sound, _, Tryz.func129, by kernel_rfl, by kernel_rfl⟩
end impl_wordsOk
namespace impl_CmdOk
noncomputable def fs : FS := ⟨[(.val tyS42 .f)], [(.bool, .o)], fun _ => true, fun x => ((), ((impl_CmdOk x.1), ()))⟩
noncomputable def E : Env := ⟨theta, [(101, impl_within.fs), (129, impl_wordsOk.fs)], []⟩
noncomputable def H : List LC := []
theorem env : EnvOk Tryz.prog E := env_cons impl_within.known (env_cons impl_wordsOk.known (env_nil tys))
theorem loops : ∀ c, Tryz.f103.body = some c -> LoopsOk E H c := loops_none (by kernel_rfl)
theorem sound : Sound Tryz.prog 103 fs := fn_sound env mixed Tryz.func103 H loops fun ⟨x0, ()⟩ hw _ => (show runFn E H Tryz.f103 fs.ps fs.rs (x0, ()) = raw x0 from by kernel_rfl).trans (eq x0 hw)
theorem known : Seen Tryz.prog 103 fs := ⟨sound, _, Tryz.func103, by kernel_rfl, by kernel_rfl⟩
end impl_CmdOk
namespace reader_cmd
noncomputable def fs : FS := ⟨[(.ref tyS410 .f)], [(tyS42, .o)], fun _ => true, fun x => (((reader_cmd x.1).1, ()), ((reader_cmd x.1).2, ()))⟩
noncomputable def E : Env := ⟨theta, [(228, reader_num.fs), (232, reader_text.fs), (103, impl_CmdOk.fs)], []⟩
noncomputable def H : List LC := []
theorem env : EnvOk Tryz.prog E := env_cons reader_num.known (env_cons reader_text.known (env_cons impl_CmdOk.known (env_nil tys)))
theorem loops : ∀ c, Tryz.f231.body = some c -> LoopsOk E H c := loops_none (by kernel_rfl)
theorem sound : Sound Tryz.prog 231 fs := fn_sound env mixed Tryz.func231 H loops fun ⟨x0, ()⟩ hw _ => (show runFn E H Tryz.f231 fs.ps fs.rs (x0, ()) = raw x0 from by kernel_rfl).trans (eq x0 hw)
theorem known : Seen Tryz.prog 231 fs := ⟨sound, _, Tryz.func231, by kernel_rfl, by kernel_rfl⟩
end reader_cmd
namespace impl_noteIn_1
noncomputable def fs : FS := ⟨[(.cell 1 tyS410), (.ref tyS410 .f), (.ref tyS46 .o)], [], fun x => impl_noteIn_1.pre x.1 x.2.1, fun x => (((impl_noteIn_1 x.1 x.2.1).1, ((impl_noteIn_1 x.1 x.2.1).2, ())), ())⟩
noncomputable def we : WEnt := ⟨230, 230, fs, [(.par 0), (.par 2)], [(.arg 0), (.of 0), (.arg 1)]⟩
noncomputable def E : Env := ⟨theta, [(228, reader_num.fs), (231, reader_cmd.fs)], []⟩
noncomputable def H : List LC := []
theorem env : EnvOk Tryz.prog E := env_cons reader_num.known (env_cons reader_cmd.known (env_nil tys))
theorem loops : ∀ c, Tryz.f230.body = some c -> LoopsOk E H c := loops_none (by kernel_rfl)
theorem sound : SoundW Tryz.prog 230 fs we.real := fn_soundW env mixed Tryz.func230 H loops fun ⟨x0, x1, ()⟩ hw hp => (show runFnW E H Tryz.f230 fs.ps fs.rs we.real (x0, (x1, ())) = raw x0 x1 from by kernel_rfl).trans (eq x0 x1 hw hp)
theorem known : SeenW Tryz.prog we := ⟨sound, _, Tryz.func230, by kernel_rfl, by kernel_rfl⟩
end impl_noteIn_1
namespace each_noteIn_1
noncomputable def ob1 : List (Nat × ShO) := [(10000000, (.box tyS410 (.dat tyS410))), (10000064, (.box .op (.bptr 10000000 [] tyS410))), (10000128, (.box tyS46 (.pair (.dat (.int .i64)) (.pair (.dat (.int .i64)) (.pair (.dat (.int .i64)) (.pair (.dat (.int .i64)) (.pair (.arr 20000000) (.dat (.pair .str .unit))))))))), (20000000, (.arr 167 (.pair (.int .i64) (.pair tyS42 .unit))))]
noncomputable def fs : FS := ⟨[(.ref tyS410 .f), (.cell 0 tyS410), (.ref tyS46 .o)], [], fun x => each_noteIn_1.pre x.1 x.2.1, fun x => (((each_noteIn_1 x.1 x.2.1).1, ((each_noteIn_1 x.1 x.2.1).2, ())), ())⟩
noncomputable def we : WEnt := ⟨229, 230, fs, [(.par 0), (.clo 230 [1, 2])], [(.arg 0), (.cap 1 0), (.cap 1 1)]⟩
noncomputable def E : Env := ⟨theta, [(228, reader_num.fs)], [impl_noteIn_1.we]⟩
noncomputable def sh2 : ShSt := ⟨((.one (.bptr 10000000 [] tyS410)) :: (.one (.clo 230 (.pair (.bptr 10000064 [] .op) (.pair (.bptr 10000128 [] tyS46) .unit)))) :: uu :: uu :: ui :: ui :: un 16 []), ob1⟩
noncomputable def outs2 : List OutC := [⟨(.exit 0), ⟨0, [0, 1], []⟩, ⟨((.one (.bptr 10000000 [] tyS410)) :: (.one (.clo 230 (.pair (.bptr 10000064 [] .op) (.pair (.bptr 10000128 [] tyS46) .unit)))) :: un 20 []), ob1⟩⟩]
noncomputable def L2 : LC := ⟨2, ⟨2, [0, 1, 4, 5], []⟩, sh2, outs2, pre2, fn2⟩
noncomputable def H : List LC := [L2]
noncomputable def code (i : Nat) : Code := (loopsOf (bodyOf Tryz.f229)).getD i .skip
theorem lok2 : LoopOk E H (code 0) L2 := ⟨mu2, fun ⟨x1, x2, x3, x4, x5, x6, x7, x8, x9, ()⟩ hp => rounds_ok (show L2.step E H (code 0) (x1, (x2, (x3, (x4, (x5, (x6, (x7, (x8, (x9, ()))))))))) = raw2 x1 x2 x3 x4 x5 x6 x7 x8 x9 from by kernel_rfl) (ok2 x1 x2 x3 x4 x5 x6 x7 x8 x9 hp)⟩
theorem env : EnvOk Tryz.prog E := env_cons reader_num.known (env_wire impl_noteIn_1.known (env_nil tys))
theorem loops : ∀ c, Tryz.f229.body = some c -> LoopsOk E H c := loops_of (by kernel_rfl) (by kernel_rfl) fun i l h => match i, h with
  | 0, h => Option.some.inj h ▸ lok2
  | n + 1, h => by cases h
theorem sound : SoundW Tryz.prog 229 fs we.real := fn_soundW env mixed Tryz.func229 H loops fun ⟨x0, x1, ()⟩ hw hp => (show runFnW E H Tryz.f229 fs.ps fs.rs we.real (x0, (x1, ())) = raw x0 x1 from by kernel_rfl).trans (eq x0 x1 hw hp)
theorem known : SeenW Tryz.prog we := ⟨sound, _, Tryz.func229, by kernel_rfl, by kernel_rfl⟩
end each_noteIn_1
namespace impl_NoteOk_1
noncomputable def fs : FS := ⟨[(.val (.pair (.int .i64) (.pair tyS42 .unit)) .f)], [(.bool, .o)], fun _ => true, fun x => ((), ((impl_NoteOk_1 x.1), ()))⟩
noncomputable def E : Env := ⟨theta, [(101, impl_within.fs), (103, impl_CmdOk.fs)], []⟩
noncomputable def H : List LC := []
theorem env : EnvOk Tryz.prog E := env_cons impl_within.known (env_cons impl_CmdOk.known (env_nil tys))
theorem loops : ∀ c, Tryz.f117.body = some c -> LoopsOk E H c := loops_none (by kernel_rfl)
theorem sound : Sound Tryz.prog 117 fs := fn_sound env mixed Tryz.func117 H loops fun ⟨x0, ()⟩ hw _ => (show runFn E H Tryz.f117 fs.ps fs.rs (x0, ()) = raw x0 from by kernel_rfl).trans (eq x0 hw)
theorem known : Seen Tryz.prog 117 fs := ⟨sound, _, Tryz.func117, by kernel_rfl, by kernel_rfl⟩
end impl_NoteOk_1
namespace slices_IndexFunc_Entry
noncomputable def fs : FS := ⟨[(.val (.sl 167 (.pair (.int .i64) (.pair tyS42 .unit))) .f), (.fn (.pair (.int .i64) (.pair tyS42 .unit)) .bool)], [((.int .i64), .o)], fun x => slices_IndexFunc_Entry.pre x.1 x.2.1, fun x => ((), ((slices_IndexFunc_Entry x.1 x.2.1), ()))⟩
noncomputable def E : Env := ⟨theta, [], []⟩
noncomputable def sh2 : ShSt := ⟨((.one (.dat (.sl 167 (.pair (.int .i64) (.pair tyS42 .unit))))) :: (.one (.fn (.pair (.int .i64) (.pair tyS42 .unit)) .bool)) :: un 5 (ui :: ui :: un 10 [])), []⟩
noncomputable def outs2 : List OutC := [⟨.ret, ⟨0, [4], []⟩, ⟨(un 4 (ui :: un 14 [])), []⟩⟩, ⟨(.exit 0), ⟨0, [], []⟩, ⟨(un 19 []), []⟩⟩]
noncomputable def L2 : LC := ⟨2, ⟨2, [0, 1, 7, 8], []⟩, sh2, outs2, pre2, fn2⟩
noncomputable def H : List LC := [L2]
noncomputable def code (i : Nat) : Code := (loopsOf (bodyOf Tryz.f224)).getD i .skip
theorem lok2 : LoopOk E H (code 0) L2 := ⟨mu2, fun ⟨x1, x2, x3, x4, x5, ()⟩ hp => rounds_ok (show L2.step E H (code 0) (x1, (x2, (x3, (x4, (x5, ()))))) = raw2 x1 x2 x3 x4 x5 from by kernel_rfl) (ok2 x1 x2 x3 x4 x5 hp)⟩
theorem env : EnvOk Tryz.prog E := env_nil tys
theorem loops : ∀ c, Tryz.f224.body = some c -> LoopsOk E H c := loops_of (by kernel_rfl) (by kernel_rfl) fun i l h => match i, h with
  | 0, h => Option.some.inj h ▸ lok2
  | n + 1, h => by cases h
theorem sound : Sound Tryz.prog 224 fs := fn_sound env mixed Tryz.func224 H loops fun ⟨x0, x1, ()⟩ hw hp => (show runFn E H Tryz.f224 fs.ps fs.rs (x0, (x1, ())) = raw x0 x1 from by kernel_rfl).trans (eq x0 x1 hw hp)
theorem known : Seen Tryz.prog 224 fs := ⟨sound, _, Tryz.func224, by kernel_rfl, by kernel_rfl⟩
end slices_IndexFunc_Entry
namespace slices_ContainsFunc_Entry
noncomputable def fs : FS := ⟨[(.val (.sl 167 (.pair (.int .i64) (.pair tyS42 .unit))) .f), (.fn (.pair (.int .i64) (.pair tyS42 .unit)) .bool)], [(.bool, .o)], fun x => slices_ContainsFunc_Entry.pre x.1 x.2.1, fun x => ((), ((slices_ContainsFunc_Entry x.1 x.2.1), ()))⟩
noncomputable def E : Env := ⟨theta, [(224, slices_IndexFunc_Entry.fs)], []⟩
noncomputable def H : List LC := []
theorem env : EnvOk Tryz.prog E := env_cons slices_IndexFunc_Entry.known (env_nil tys)
theorem loops : ∀ c, Tryz.f116.body = some c -> LoopsOk E H c := loops_none (by kernel_rfl)
theorem sound : Sound Tryz.prog 116 fs := fn_sound env mixed Tryz.func116 H loops fun ⟨x0, x1, ()⟩ hw hp => (show runFn E H Tryz.f116 fs.ps fs.rs (x0, (x1, ())) = raw x0 x1 from by kernel_rfl).trans (eq x0 x1 hw hp)
theorem known : Seen Tryz.prog 116 fs := ⟨sound, _, Tryz.func116, by kernel_rfl, by kernel_rfl⟩
end slices_ContainsFunc_Entry
namespace impl_NoteOk
noncomputable def fs : FS := ⟨[(.val tyS46 .f)], [(.bool, .o)], fun _ => true, fun x => ((), ((impl_NoteOk x.1), ()))⟩
noncomputable def E : Env := ⟨theta, [(101, impl_within.fs), (117, impl_NoteOk_1.fs), (116, slices_ContainsFunc_Entry.fs)], []⟩
noncomputable def H : List LC := []
theorem env : EnvOk Tryz.prog E := env_cons impl_within.known (env_cons impl_NoteOk_1.known (env_cons slices_ContainsFunc_Entry.known (env_nil tys)))
theorem loops : ∀ c, Tryz.f28.body = some c -> LoopsOk E H c := loops_none (by kernel_rfl)
theorem sound : Sound Tryz.prog 28 fs := fn_sound env mixed Tryz.func28 H loops fun ⟨x0, ()⟩ hw _ => (show runFn E H Tryz.f28 fs.ps fs.rs (x0, ()) = raw x0 from by kernel_rfl).trans (eq x0 hw)
theorem known : Seen Tryz.prog 28 fs := ⟨sound, _, Tryz.func28, by kernel_rfl, by kernel_rfl⟩
end impl_NoteOk
namespace impl_noteIn
noncomputable def fs : FS := ⟨[(.val (.sl 5 (.int .u8)) .f)], [(tyS46, .o), (.bool, .o)], fun x => impl_noteIn.pre x.1, fun x => ((), ((impl_noteIn x.1).1, ((impl_noteIn x.1).2, ())))⟩
noncomputable def E : Env := ⟨theta, [(228, reader_num.fs), (232, reader_text.fs), (28, impl_NoteOk.fs)], [each_noteIn_1.we]⟩
noncomputable def H : List LC := []
theorem env : EnvOk Tryz.prog E := env_cons reader_num.known (env_cons reader_text.known (env_cons impl_NoteOk.known (env_wire each_noteIn_1.known (env_nil tys))))
theorem loops : ∀ c, Tryz.f122.body = some c -> LoopsOk E H c := loops_none (by kernel_rfl)
theorem sound : Sound Tryz.prog 122 fs := fn_sound env mixed Tryz.func122 H loops fun ⟨x0, ()⟩ hw hp => (show runFn E H Tryz.f122 fs.ps fs.rs (x0, ()) = raw x0 from by kernel_rfl).trans (eq x0 hw hp)
theorem known : Seen Tryz.prog 122 fs := ⟨sound, _, Tryz.func122, by kernel_rfl, by kernel_rfl⟩
end impl_noteIn
namespace impl_PutNum
noncomputable def fs : FS := ⟨[(.val (.int .i64) .f)], [((.sl 5 (.int .u8)), .o)], fun _ => true, fun x => ((), ((impl_PutNum x.1), ()))⟩
noncomputable def E : Env := ⟨theta, [(101, impl_within.fs)], []⟩
noncomputable def sh4 : ShSt := ⟨(ui :: uu :: uu :: (.one (.arr 20000000)) :: un 19 []), [(20000000, (.arr 5 (.int .u8)))]⟩
noncomputable def outs4 : List OutC := [⟨(.exit 0), ⟨0, [0, 3], [(3, (5, (.int .u8)))]⟩, ⟨(ui :: uu :: uu :: (.one (.arr 20000000)) :: un 19 []), [(20000000, (.arr 5 (.int .u8)))]⟩⟩]
noncomputable def L4 : LC := ⟨4, ⟨4, [0, 3], [(3, (5, (.int .u8)))]⟩, sh4, outs4, pre4, fn4⟩
noncomputable def H : List LC := [L4]
noncomputable def code (i : Nat) : Code := (loopsOf (bodyOf Tryz.f220)).getD i .skip
theorem lok4 : LoopOk E H (code 0) L4 := ⟨mu4, fun ⟨x1, x2, ()⟩ hp => rounds_ok (show L4.step E H (code 0) (x1, (x2, ())) = raw4 x1 x2 from by kernel_rfl) (ok4 x1 x2 hp)⟩
theorem env : EnvOk Tryz.prog E := env_cons impl_within.known (env_nil tys)
theorem loops : ∀ c, Tryz.f220.body = some c -> LoopsOk E H c := loops_of (by kernel_rfl) (by kernel_rfl) fun i l h => match i, h with
  | 0, h => Option.some.inj h ▸ lok4
  | n + 1, h => by cases h
theorem sound : Sound Tryz.prog 220 fs := fn_sound env mixed Tryz.func220 H loops fun ⟨x0, ()⟩ hw _ => (show runFn E H Tryz.f220 fs.ps fs.rs (x0, ()) = raw x0 from by kernel_rfl).trans (eq x0 hw)
theorem known : Seen Tryz.prog 220 fs := ⟨sound, _, Tryz.func220, by kernel_rfl, by kernel_rfl⟩
end impl_PutNum
namespace impl_nums
noncomputable def fs : FS := ⟨[(.val (.sl 3 (.int .i64)) .f)], [((.sl 5 (.int .u8)), .o)], fun x => impl_nums.pre x.1, fun x => ((), ((impl_nums x.1), ()))⟩
noncomputable def E : Env := ⟨theta, [(220, impl_PutNum.fs)], []⟩
noncomputable def sh3 : ShSt := ⟨(uu :: uu :: uu :: (.one (.arr 20000000)) :: uu :: uu :: (.one (.dat (.sl 3 (.int .i64)))) :: ui :: ui :: un 9 []), [(20000000, (.arr 5 (.int .u8)))]⟩
noncomputable def outs3 : List OutC := [⟨(.exit 0), ⟨0, [3], [(3, (5, (.int .u8)))]⟩, ⟨(uu :: uu :: uu :: (.one (.arr 20000000)) :: un 14 []), [(20000000, (.arr 5 (.int .u8)))]⟩⟩]
noncomputable def L3 : LC := ⟨3, ⟨3, [3, 6, 7, 8], [(3, (5, (.int .u8)))]⟩, sh3, outs3, pre3, fn3⟩
noncomputable def H : List LC := [L3]
noncomputable def code (i : Nat) : Code := (loopsOf (bodyOf Tryz.f107)).getD i .skip
theorem lok3 : LoopOk E H (code 0) L3 := ⟨mu3, fun ⟨x1, x2, x3, x4, ()⟩ hp => rounds_ok (show L3.step E H (code 0) (x1, (x2, (x3, (x4, ())))) = raw3 x1 x2 x3 x4 from by kernel_rfl) (ok3 x1 x2 x3 x4 hp)⟩
theorem env : EnvOk Tryz.prog E := env_cons impl_PutNum.known (env_nil tys)
theorem loops : ∀ c, Tryz.f107.body = some c -> LoopsOk E H c := loops_of (by kernel_rfl) (by kernel_rfl) fun i l h => match i, h with
  | 0, h => Option.some.inj h ▸ lok3
  | n + 1, h => by cases h
theorem sound : Sound Tryz.prog 107 fs := fn_sound env mixed Tryz.func107 H loops fun ⟨x0, ()⟩ hw hp => (show runFn E H Tryz.f107 fs.ps fs.rs (x0, ()) = raw x0 from by kernel_rfl).trans (eq x0 hw hp)
theorem known : Seen Tryz.prog 107 fs := ⟨sound, _, Tryz.func107, by kernel_rfl, by kernel_rfl⟩
end impl_nums
namespace impl_PutText
noncomputable def fs : FS := ⟨[(.val .str .f)], [((.sl 5 (.int .u8)), .o)], fun x => impl_PutText.pre x.1, fun x => ((), ((impl_PutText x.1), ()))⟩
noncomputable def E : Env := ⟨theta, [(220, impl_PutNum.fs)], []⟩
noncomputable def H : List LC := []
theorem env : EnvOk Tryz.prog E := env_cons impl_PutNum.known (env_nil tys)
theorem loops : ∀ c, Tryz.f110.body = some c -> LoopsOk E H c := loops_none (by kernel_rfl)
theorem sound : Sound Tryz.prog 110 fs := fn_sound env mixed Tryz.func110 H loops fun ⟨x0, ()⟩ hw hp => (show runFn E H Tryz.f110 fs.ps fs.rs (x0, ()) = raw x0 from by kernel_rfl).trans (eq x0 hw hp)
theorem known : Seen Tryz.prog 110 fs := ⟨sound, _, Tryz.func110, by kernel_rfl, by kernel_rfl⟩
end impl_PutText
namespace slices_Grow_byte
noncomputable def fs : FS := ⟨[(.nil 5 (.int .u8)), (.val (.int .i64) .f)], [((.sl 5 (.int .u8)), .o)], fun x => slices_Grow_byte.pre x.1, fun x => ((), ((slices_Grow_byte x.1), ()))⟩
noncomputable def E : Env := ⟨theta, [], []⟩
noncomputable def H : List LC := []
theorem env : EnvOk Tryz.prog E := env_nil tys
theorem loops : ∀ c, Tryz.f221.body = some c -> LoopsOk E H c := loops_none (by kernel_rfl)
theorem sound : Sound Tryz.prog 221 fs := fn_sound env mixed Tryz.func221 H loops fun ⟨x0, ()⟩ hw hp => (show runFn E H Tryz.f221 fs.ps fs.rs (x0, ()) = raw x0 from by kernel_rfl).trans (eq x0 hw hp)
theorem known : Seen Tryz.prog 221 fs := ⟨sound, _, Tryz.func221, by kernel_rfl, by kernel_rfl⟩
end slices_Grow_byte
namespace slices_Concat_byte
noncomputable def fs : FS := ⟨[(.val (.sl 22 (.sl 5 (.int .u8))) .f)], [((.sl 5 (.int .u8)), .o)], fun x => slices_Concat_byte.pre x.1, fun x => ((), ((slices_Concat_byte x.1), ()))⟩
noncomputable def E : Env := ⟨theta, [(221, slices_Grow_byte.fs)], []⟩
noncomputable def sh3 : ShSt := ⟨((.one (.dat (.sl 22 (.sl 5 (.int .u8))))) :: uu :: uu :: ui :: un 5 ((.one (.dat (.sl 22 (.sl 5 (.int .u8))))) :: ui :: ui :: un 24 [])), []⟩
noncomputable def outs3 : List OutC := [⟨(.exit 0), ⟨0, [0, 3], []⟩, ⟨((.one (.dat (.sl 22 (.sl 5 (.int .u8))))) :: uu :: uu :: ui :: un 32 []), []⟩⟩]
noncomputable def L3 : LC := ⟨3, ⟨3, [0, 3, 9, 10, 11], []⟩, sh3, outs3, pre3, fn3⟩
noncomputable def sh11 : ShSt := ⟨(un 6 ((.one (.arr 20000000)) :: un 18 ((.one (.dat (.sl 22 (.sl 5 (.int .u8))))) :: ui :: ui :: un 8 []))), [(20000000, (.arr 5 (.int .u8)))]⟩
noncomputable def outs11 : List OutC := [⟨(.exit 2), ⟨0, [6], [(6, (5, (.int .u8)))]⟩, ⟨(un 6 ((.one (.arr 20000000)) :: un 29 [])), [(20000000, (.arr 5 (.int .u8)))]⟩⟩]
noncomputable def L11 : LC := ⟨11, ⟨11, [6, 25, 26, 27], [(6, (5, (.int .u8)))]⟩, sh11, outs11, pre11, fn11⟩
noncomputable def H : List LC := [L3, L11]
noncomputable def code (i : Nat) : Code := (loopsOf (bodyOf Tryz.f108)).getD i .skip
theorem lok3 : LoopOk E H (code 0) L3 := ⟨mu3, fun ⟨x1, x2, x3, x4, x5, ()⟩ hp => rounds_ok (show L3.step E H (code 0) (x1, (x2, (x3, (x4, (x5, ()))))) = raw3 x1 x2 x3 x4 x5 from by kernel_rfl) (ok3 x1 x2 x3 x4 x5 hp)⟩
theorem lok11 : LoopOk E H (code 1) L11 := ⟨mu11, fun ⟨x1, x2, x3, x4, ()⟩ hp => rounds_ok (show L11.step E H (code 1) (x1, (x2, (x3, (x4, ())))) = raw11 x1 x2 x3 x4 from by kernel_rfl) (ok11 x1 x2 x3 x4 hp)⟩
theorem env : EnvOk Tryz.prog E := env_cons slices_Grow_byte.known (env_nil tys)
theorem loops : ∀ c, Tryz.f108.body = some c -> LoopsOk E H c := loops_of (by kernel_rfl) (by kernel_rfl) fun i l h => match i, h with
  | 0, h => Option.some.inj h ▸ lok3
  | 1, h => Option.some.inj h ▸ lok11
  | n + 2, h => by cases h
theorem sound : Sound Tryz.prog 108 fs := fn_sound env mixed Tryz.func108 H loops fun ⟨x0, ()⟩ hw hp => (show runFn E H Tryz.f108 fs.ps fs.rs (x0, ()) = raw x0 from by kernel_rfl).trans (eq x0 hw hp)
theorem known : Seen Tryz.prog 108 fs := ⟨sound, _, Tryz.func108, by kernel_rfl, by kernel_rfl⟩
end slices_Concat_byte
namespace impl_CmdBytes
noncomputable def fs : FS := ⟨[(.val tyS42 .f)], [((.sl 5 (.int .u8)), .o)], fun _ => true, fun x => ((), ((impl_CmdBytes x.1), ()))⟩
noncomputable def E : Env := ⟨theta, [(103, impl_CmdOk.fs), (107, impl_nums.fs), (110, impl_PutText.fs), (108, slices_Concat_byte.fs)], []⟩
noncomputable def H : List LC := []
theorem env : EnvOk Tryz.prog E := env_cons impl_CmdOk.known (env_cons impl_nums.known (env_cons impl_PutText.known (env_cons slices_Concat_byte.known (env_nil tys))))
theorem loops : ∀ c, Tryz.f109.body = some c -> LoopsOk E H c := loops_none (by kernel_rfl)
theorem sound : Sound Tryz.prog 109 fs := fn_sound env mixed Tryz.func109 H loops fun ⟨x0, ()⟩ hw _ => (show runFn E H Tryz.f109 fs.ps fs.rs (x0, ()) = raw x0 from by kernel_rfl).trans (eq x0 hw)
theorem known : Seen Tryz.prog 109 fs := ⟨sound, _, Tryz.func109, by kernel_rfl, by kernel_rfl⟩
end impl_CmdBytes
namespace impl_SumOf
noncomputable def fs : FS := ⟨[(.val (.sl 5 (.int .u8)) .f)], [((.int .i64), .o)], fun _ => true, fun x => ((), ((impl_SumOf x.1), ()))⟩
noncomputable def E : Env := ⟨theta, [], []⟩
noncomputable def sh3 : ShSt := ⟨(uu :: uu :: uu :: ui :: ui :: uu :: uu :: (.one (.dat (.sl 5 (.int .u8)))) :: ui :: ui :: un 17 []), []⟩
noncomputable def outs3 : List OutC := [⟨(.exit 0), ⟨0, [3, 4], []⟩, ⟨(uu :: uu :: uu :: ui :: ui :: un 22 []), []⟩⟩]
noncomputable def L3 : LC := ⟨3, ⟨3, [3, 4, 7, 8, 9], []⟩, sh3, outs3, pre3, fn3⟩
noncomputable def H : List LC := [L3]
noncomputable def code (i : Nat) : Code := (loopsOf (bodyOf Tryz.f30)).getD i .skip
theorem lok3 : LoopOk E H (code 0) L3 := ⟨mu3, fun ⟨x1, x2, x3, x4, x5, ()⟩ hp => rounds_ok (show L3.step E H (code 0) (x1, (x2, (x3, (x4, (x5, ()))))) = raw3 x1 x2 x3 x4 x5 from by kernel_rfl) (ok3 x1 x2 x3 x4 x5 hp)⟩
theorem env : EnvOk Tryz.prog E := env_nil tys
theorem loops : ∀ c, Tryz.f30.body = some c -> LoopsOk E H c := loops_of (by kernel_rfl) (by kernel_rfl) fun i l h => match i, h with
  | 0, h => Option.some.inj h ▸ lok3
  | n + 1, h => by cases h
theorem sound : Sound Tryz.prog 30 fs := fn_sound env mixed Tryz.func30 H loops fun ⟨x0, ()⟩ hw _ => (show runFn E H Tryz.f30 fs.ps fs.rs (x0, ()) = raw x0 from by kernel_rfl).trans (eq x0 hw)
theorem known : Seen Tryz.prog 30 fs := ⟨sound, _, Tryz.func30, by kernel_rfl, by kernel_rfl⟩
end impl_SumOf
namespace impl_NoteBytes
noncomputable def ob1 : List (Nat × ShO) := [(0, (.box tyS46 (.dat tyS46))), (20000000, (.arr 5 (.int .u8)))]
noncomputable def fs : FS := ⟨[(.val tyS46 .f)], [((.sl 5 (.int .u8)), .o)], fun _ => true, fun x => ((), ((impl_NoteBytes x.1), ()))⟩
noncomputable def E : Env := ⟨theta, [(28, impl_NoteOk.fs), (107, impl_nums.fs), (110, impl_PutText.fs), (108, slices_Concat_byte.fs), (109, impl_CmdBytes.fs), (30, impl_SumOf.fs)], []⟩
noncomputable def sh5 : ShSt := ⟨(uu :: (.one (.bptr 0 [] tyS46)) :: uu :: (.one (.arr 20000000)) :: un 21 ((.one (.dat (.sl 167 (.pair (.int .i64) (.pair tyS42 .unit))))) :: ui :: ui :: un 40 [])), ob1⟩
noncomputable def outs5 : List OutC := [⟨(.exit 0), ⟨0, [1, 3], [(3, (5, (.int .u8)))]⟩, ⟨(uu :: (.one (.bptr 0 [] tyS46)) :: uu :: (.one (.arr 20000000)) :: un 64 []), ob1⟩⟩]
noncomputable def L5 : LC := ⟨5, ⟨5, [1, 3, 25, 26, 27], [(3, (5, (.int .u8)))]⟩, sh5, outs5, pre5, fn5⟩
noncomputable def H : List LC := [L5]
noncomputable def code (i : Nat) : Code := (loopsOf (bodyOf Tryz.f22)).getD i .skip
theorem lok5 : LoopOk E H (code 0) L5 := ⟨mu5, fun ⟨x1, x2, x3, x4, x5, ()⟩ hp => rounds_ok (show L5.step E H (code 0) (x1, (x2, (x3, (x4, (x5, ()))))) = raw5 x1 x2 x3 x4 x5 from by kernel_rfl) (ok5 x1 x2 x3 x4 x5 hp)⟩
theorem env : EnvOk Tryz.prog E := env_cons impl_NoteOk.known (env_cons impl_nums.known (env_cons impl_PutText.known (env_cons slices_Concat_byte.known (env_cons impl_CmdBytes.known (env_cons impl_SumOf.known (env_nil tys))))))
theorem loops : ∀ c, Tryz.f22.body = some c -> LoopsOk E H c := loops_of (by kernel_rfl) (by kernel_rfl) fun i l h => match i, h with
  | 0, h => Option.some.inj h ▸ lok5
  | n + 1, h => by cases h
theorem sound : Sound Tryz.prog 22 fs := fn_sound env mixed Tryz.func22 H loops fun ⟨x0, ()⟩ hw _ => (show runFn E H Tryz.f22 fs.ps fs.rs (x0, ()) = raw x0 from by kernel_rfl).trans (eq x0 hw)
theorem known : Seen Tryz.prog 22 fs := ⟨sound, _, Tryz.func22, by kernel_rfl, by kernel_rfl⟩
end impl_NoteBytes
namespace impl_NoteOf
noncomputable def fs : FS := ⟨[(.val (.sl 5 (.int .u8)) .f), (.val (.int .i64) .f)], [(tyS46, .o), ((.int .i64), .o), (.bool, .o)], fun x => impl_NoteOf.pre x.1 x.2.1, fun x => ((), ((impl_NoteOf x.1 x.2.1).1, ((impl_NoteOf x.1 x.2.1).2.1, ((impl_NoteOf x.1 x.2.1).2.2, ()))))⟩
noncomputable def E : Env := ⟨theta, [(35, impl_GetNum.fs), (122, impl_noteIn.fs), (22, impl_NoteBytes.fs)], []⟩
noncomputable def H : List LC := []
theorem env : EnvOk Tryz.prog E := env_cons impl_GetNum.known (env_cons impl_noteIn.known (env_cons impl_NoteBytes.known (env_nil tys)))
theorem loops : ∀ c, Tryz.f33.body = some c -> LoopsOk E H c := loops_none (by kernel_rfl)
theorem sound : Sound Tryz.prog 33 fs := fn_sound env mixed Tryz.func33 H loops fun ⟨x0, x1, ()⟩ hw hp => (show runFn E H Tryz.f33 fs.ps fs.rs (x0, (x1, ())) = raw x0 x1 from by kernel_rfl).trans (eq x0 x1 hw hp)
theorem known : Seen Tryz.prog 33 fs := ⟨sound, _, Tryz.func33, by kernel_rfl, by kernel_rfl⟩
end impl_NoteOf
namespace spec_l2Spoil
noncomputable def fs : FS := ⟨[(.ref (.pair (.sl 5 (.int .u8)) tyS47) .f), (.val tyS42 .f)], [(tyS42, .o)], fun x => spec_l2Spoil.pre x.1 x.2.1, fun x => (((spec_l2Spoil x.1 x.2.1).1, ()), ((spec_l2Spoil x.1 x.2.1).2, ()))⟩
noncomputable def E : Env := ⟨theta, [(125, spec_l1Below.fs), (121, spec_l1PickInt.fs), (126, spec_l1Pick.fs)], []⟩
noncomputable def H : List LC := []
theorem env : EnvOk Tryz.prog E := env_cons spec_l1Below.known (env_cons spec_l1PickInt.known (env_cons spec_l1Pick.known (env_nil tys)))
theorem loops : ∀ c, Tryz.f93.body = some c -> LoopsOk E H c := loops_none (by kernel_rfl)
theorem sound : Sound Tryz.prog 93 fs := fn_sound env mixed Tryz.func93 H loops fun ⟨x0, x1, ()⟩ hw hp => (show runFn E H Tryz.f93 fs.ps fs.rs (x0, (x1, ())) = raw x0 x1 from by kernel_rfl).trans (eq x0 x1 hw hp)
theorem known : Seen Tryz.prog 93 fs := ⟨sound, _, Tryz.func93, by kernel_rfl, by kernel_rfl⟩
end spec_l2Spoil
namespace spec_l9Draw
noncomputable def ob1 : List (Nat × ShO) := [(10000000, (.box (.pair (.sl 5 (.int .u8)) tyS47) (.dat (.pair (.sl 5 (.int .u8)) tyS47)))), (0, (.box tyS46 (.pair (.dat (.int .i64)) (.pair (.dat (.int .i64)) (.pair (.dat (.int .i64)) (.pair (.dat (.int .i64)) (.pair (.arr 20000000) (.dat (.pair .str .unit))))))))), (20000000, (.arr 167 (.pair (.int .i64) (.pair tyS42 .unit)))), (8256, (.box tyS46 (.pair (.dat (.int .i64)) (.pair (.dat (.int .i64)) (.pair (.dat (.int .i64)) (.pair (.dat (.int .i64)) (.pair (.arr 20000001) (.dat (.pair .str .unit))))))))), (20000001, (.arr 167 (.pair (.int .i64) (.pair tyS42 .unit))))]
noncomputable def fs : FS := ⟨[(.ref (.pair (.sl 5 (.int .u8)) tyS47) .f)], [(tyS46, .o)], fun x => spec_l9Draw.pre x.1, fun x => (((spec_l9Draw x.1).1, ()), ((spec_l9Draw x.1).2, ()))⟩
noncomputable def E : Env := ⟨theta, [(125, spec_l1Below.fs), (121, spec_l1PickInt.fs), (212, spec_l2DrawRight.fs), (120, spec_l9DrawRight.fs), (93, spec_l2Spoil.fs)], []⟩
noncomputable def sh12 : ShSt := ⟨((.one (.bptr 10000000 [] (.pair (.sl 5 (.int .u8)) tyS47))) :: uu :: (.one (.bptr 0 [] tyS46)) :: (.one (.bptr 8256 [] tyS46)) :: un 53 []), ob1⟩
noncomputable def outs12 : List OutC := [⟨(.exit 1), ⟨0, [2, 3, 0], []⟩, ⟨((.one (.bptr 10000000 [] (.pair (.sl 5 (.int .u8)) tyS47))) :: uu :: (.one (.bptr 0 [] tyS46)) :: (.one (.bptr 8256 [] tyS46)) :: un 53 []), ob1⟩⟩]
noncomputable def L12 : LC := ⟨12, ⟨12, [0, 2, 3], []⟩, sh12, outs12, pre12, fn12⟩
noncomputable def H : List LC := [L12]
noncomputable def code (i : Nat) : Code := (loopsOf (bodyOf Tryz.f111)).getD i .skip
theorem lok12 : LoopOk E H (code 0) L12 := ⟨mu12, fun ⟨x1, x2, x3, x4, x5, x6, x7, x8, x9, x10, x11, x12, x13, ()⟩ hp => rounds_ok (show L12.step E H (code 0) (x1, (x2, (x3, (x4, (x5, (x6, (x7, (x8, (x9, (x10, (x11, (x12, (x13, ()))))))))))))) = raw12 x1 x2 x3 x4 x5 x6 x7 x8 x9 x10 x11 x12 x13 from by kernel_rfl) (ok12 x1 x2 x3 x4 x5 x6 x7 x8 x9 x10 x11 x12 x13 hp)⟩
theorem env : EnvOk Tryz.prog E := env_cons spec_l1Below.known (env_cons spec_l1PickInt.known (env_cons spec_l2DrawRight.known (env_cons spec_l9DrawRight.known (env_cons spec_l2Spoil.known (env_nil tys)))))
theorem loops : ∀ c, Tryz.f111.body = some c -> LoopsOk E H c := loops_of (by kernel_rfl) (by kernel_rfl) fun i l h => match i, h with
  | 0, h => Option.some.inj h ▸ lok12
  | n + 1, h => by cases h
theorem sound : Sound Tryz.prog 111 fs := fn_sound env mixed Tryz.func111 H loops fun ⟨x0, ()⟩ hw hp => (show runFn E H Tryz.f111 fs.ps fs.rs (x0, ()) = raw x0 from by kernel_rfl).trans (eq x0 hw hp)
theorem known : Seen Tryz.prog 111 fs := ⟨sound, _, Tryz.func111, by kernel_rfl, by kernel_rfl⟩
end spec_l9Draw
namespace spec_DrawNoteBytes
noncomputable def fs : FS := ⟨[(.val (.sl 5 (.int .u8)) .f)], [(tyS46, .o)], fun x => spec_DrawNoteBytes.pre x.1, fun x => ((), ((spec_DrawNoteBytes x.1), ()))⟩
noncomputable def E : Env := ⟨theta, [(89, spec_l1New.fs), (111, spec_l9Draw.fs)], []⟩
noncomputable def H : List LC := []
theorem env : EnvOk Tryz.prog E := env_cons spec_l1New.known (env_cons spec_l9Draw.known (env_nil tys))
theorem loops : ∀ c, Tryz.f24.body = some c -> LoopsOk E H c := loops_none (by kernel_rfl)
theorem sound : Sound Tryz.prog 24 fs := fn_sound env mixed Tryz.func24 H loops fun ⟨x0, ()⟩ hw hp => (show runFn E H Tryz.f24 fs.ps fs.rs (x0, ()) = raw x0 from by kernel_rfl).trans (eq x0 hw hp)
theorem known : Seen Tryz.prog 24 fs := ⟨sound, _, Tryz.func24, by kernel_rfl, by kernel_rfl⟩
end spec_DrawNoteBytes
namespace spec_DrawNoteOk
noncomputable def fs : FS := ⟨[(.val (.sl 5 (.int .u8)) .f)], [(tyS46, .o)], fun x => spec_DrawNoteOk.pre x.1, fun x => ((), ((spec_DrawNoteOk x.1), ()))⟩
noncomputable def E : Env := ⟨theta, [(89, spec_l1New.fs), (111, spec_l9Draw.fs)], []⟩
noncomputable def H : List LC := []
theorem env : EnvOk Tryz.prog E := env_cons spec_l1New.known (env_cons spec_l9Draw.known (env_nil tys))
theorem loops : ∀ c, Tryz.f25.body = some c -> LoopsOk E H c := loops_none (by kernel_rfl)
theorem sound : Sound Tryz.prog 25 fs := fn_sound env mixed Tryz.func25 H loops fun ⟨x0, ()⟩ hw hp => (show runFn E H Tryz.f25 fs.ps fs.rs (x0, ()) = raw x0 from by kernel_rfl).trans (eq x0 hw hp)
theorem known : Seen Tryz.prog 25 fs := ⟨sound, _, Tryz.func25, by kernel_rfl, by kernel_rfl⟩
end spec_DrawNoteOk
namespace spec_l7DrawNums
noncomputable def ob1 : List (Nat × ShO) := [(10000000, (.box (.pair (.sl 5 (.int .u8)) tyS47) (.dat (.pair (.sl 5 (.int .u8)) tyS47)))), (20000000, (.arr 5 (.int .u8)))]
noncomputable def fs : FS := ⟨[(.ref (.pair (.sl 5 (.int .u8)) tyS47) .f)], [((.sl 5 (.int .u8)), .o)], fun x => spec_l7DrawNums.pre x.1, fun x => (((spec_l7DrawNums x.1).1, ()), ((spec_l7DrawNums x.1).2, ()))⟩
noncomputable def E : Env := ⟨theta, [(125, spec_l1Below.fs), (121, spec_l1PickInt.fs), (92, spec_l1Once.fs), (114, spec_PutNum.fs)], []⟩
noncomputable def sh3 : ShSt := ⟨((.one (.bptr 10000000 [] (.pair (.sl 5 (.int .u8)) tyS47))) :: uu :: uu :: (.one (.arr 20000000)) :: ui :: un 26 []), ob1⟩
noncomputable def outs3 : List OutC := [⟨(.exit 0), ⟨0, [0, 3], [(3, (5, (.int .u8)))]⟩, ⟨((.one (.bptr 10000000 [] (.pair (.sl 5 (.int .u8)) tyS47))) :: uu :: uu :: (.one (.arr 20000000)) :: un 27 []), ob1⟩⟩]
noncomputable def L3 : LC := ⟨3, ⟨3, [0, 3, 4], [(3, (5, (.int .u8)))]⟩, sh3, outs3, pre3, fn3⟩
noncomputable def H : List LC := [L3]
noncomputable def code (i : Nat) : Code := (loopsOf (bodyOf Tryz.f112)).getD i .skip
theorem lok3 : LoopOk E H (code 0) L3 := ⟨mu3, fun ⟨x1, x2, x3, ()⟩ hp => rounds_ok (show L3.step E H (code 0) (x1, (x2, (x3, ()))) = raw3 x1 x2 x3 from by kernel_rfl) (ok3 x1 x2 x3 hp)⟩
theorem env : EnvOk Tryz.prog E := env_cons spec_l1Below.known (env_cons spec_l1PickInt.known (env_cons spec_l1Once.known (env_cons spec_PutNum.known (env_nil tys))))
theorem loops : ∀ c, Tryz.f112.body = some c -> LoopsOk E H c := loops_of (by kernel_rfl) (by kernel_rfl) fun i l h => match i, h with
  | 0, h => Option.some.inj h ▸ lok3
  | n + 1, h => by cases h
theorem sound : Sound Tryz.prog 112 fs := fn_sound env mixed Tryz.func112 H loops fun ⟨x0, ()⟩ hw hp => (show runFn E H Tryz.f112 fs.ps fs.rs (x0, ()) = raw x0 from by kernel_rfl).trans (eq x0 hw hp)
theorem known : Seen Tryz.prog 112 fs := ⟨sound, _, Tryz.func112, by kernel_rfl, by kernel_rfl⟩
end spec_l7DrawNums
namespace spec_DrawSumOf
noncomputable def fs : FS := ⟨[(.val (.sl 5 (.int .u8)) .f)], [((.sl 5 (.int .u8)), .o)], fun x => spec_DrawSumOf.pre x.1, fun x => ((), ((spec_DrawSumOf x.1), ()))⟩
noncomputable def E : Env := ⟨theta, [(89, spec_l1New.fs), (112, spec_l7DrawNums.fs)], []⟩
noncomputable def H : List LC := []
theorem env : EnvOk Tryz.prog E := env_cons spec_l1New.known (env_cons spec_l7DrawNums.known (env_nil tys))
theorem loops : ∀ c, Tryz.f26.body = some c -> LoopsOk E H c := loops_none (by kernel_rfl)
theorem sound : Sound Tryz.prog 26 fs := fn_sound env mixed Tryz.func26 H loops fun ⟨x0, ()⟩ hw hp => (show runFn E H Tryz.f26 fs.ps fs.rs (x0, ()) = raw x0 from by kernel_rfl).trans (eq x0 hw hp)
theorem known : Seen Tryz.prog 26 fs := ⟨sound, _, Tryz.func26, by kernel_rfl, by kernel_rfl⟩
end spec_DrawSumOf
namespace laws_FnNotes
noncomputable def fs : FS := ⟨[(.val (.sl 5 (.int .u8)) .f)], [(.bool, .o)], fun _ => true, fun x => ((), ((laws_FnNotes x.1), ()))⟩
noncomputable def E : Env := ⟨theta, [(12, laws_big.fs), (29, spec_NoteOk.fs), (31, spec_SumOf.fs), (27, spec_NoteBytes.fs), (32, spec_DrawNoteOf.fs), (34, spec_NoteOf.fs), (23, laws_at.fs), (35, impl_GetNum.fs), (28, impl_NoteOk.fs), (30, impl_SumOf.fs), (22, impl_NoteBytes.fs), (33, impl_NoteOf.fs), (24, spec_DrawNoteBytes.fs), (25, spec_DrawNoteOk.fs), (26, spec_DrawSumOf.fs)], []⟩
noncomputable def sh21 : ShSt := ⟨((.one (.dat (.sl 5 (.int .u8)))) :: uu :: uu :: uu :: (.one (.arr 20000000)) :: un 14 (ui :: uu :: ui :: un 174 [])), [(20000000, (.arr 5 (.int .u8)))]⟩
noncomputable def outs21 : List OutC := [⟨.ret, ⟨0, [2], []⟩, ⟨(uu :: uu :: (.one (.dat .bool)) :: un 193 []), []⟩⟩, ⟨(.exit 0), ⟨0, [], []⟩, ⟨(un 196 []), []⟩⟩]
noncomputable def L21 : LC := ⟨21, ⟨21, [0, 4, 19, 21], []⟩, sh21, outs21, pre21, fn21⟩
noncomputable def H : List LC := [L21]
noncomputable def code (i : Nat) : Code := (loopsOf (bodyOf Tryz.f5)).getD i .skip
theorem lok21 : LoopOk E H (code 0) L21 := ⟨mu21, fun ⟨x1, x2, x3, x4, ()⟩ hp => rounds_ok (show L21.step E H (code 0) (x1, (x2, (x3, (x4, ())))) = raw21 x1 x2 x3 x4 from by kernel_rfl) (ok21 x1 x2 x3 x4 hp)⟩
theorem env : EnvOk Tryz.prog E := env_cons laws_big.known (env_cons spec_NoteOk.known (env_cons spec_SumOf.known (env_cons spec_NoteBytes.known (env_cons spec_DrawNoteOf.known (env_cons spec_NoteOf.known (env_cons laws_at.known (env_cons impl_GetNum.known (env_cons impl_NoteOk.known (env_cons impl_SumOf.known (env_cons impl_NoteBytes.known (env_cons impl_NoteOf.known (env_cons spec_DrawNoteBytes.known (env_cons spec_DrawNoteOk.known (env_cons spec_DrawSumOf.known (env_nil tys)))))))))))))))
theorem loops : ∀ c, Tryz.f5.body = some c -> LoopsOk E H c := loops_of (by kernel_rfl) (by kernel_rfl) fun i l h => match i, h with
  | 0, h => Option.some.inj h ▸ lok21
  | n + 1, h => by cases h
theorem sound : Sound Tryz.prog 5 fs := fn_sound env mixed Tryz.func5 H loops fun ⟨x0, ()⟩ hw _ => (show runFn E H Tryz.f5 fs.ps fs.rs (x0, ()) = raw x0 from by kernel_rfl).trans (eq x0 hw)
theorem known : Seen Tryz.prog 5 fs := ⟨sound, _, Tryz.func5, by kernel_rfl, by kernel_rfl⟩
end laws_FnNotes
end
end Go.Aw.Pl
