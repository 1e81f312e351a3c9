import Derived.Test.YtpcdhadfpeojkaaS2a
namespace Go.Aw.Pl
open Go Go.Aw Go.Proofs
set_option linter.unusedVariables false
set_option maxRecDepth 20000
set_option maxHeartbeats 2000000
noncomputable section
namespace spec_SumOf
noncomputable def fs : FS := ⟨[(.val (.sl 5 (.int .u8)) .f)], [((.int .i64), .o)], fun _ => true, fun x => ((), ((spec_SumOf x.1), ()))⟩
noncomputable def E : Env := ⟨theta, [], []⟩
noncomputable def sh3 : ShSt := ⟨((.one (.dat (.sl 5 (.int .u8)))) :: uu :: uu :: ui :: ui :: ui :: un 22 []), []⟩
noncomputable def outs3 : List OutC := [⟨(.exit 0), ⟨0, [3, 4], []⟩, ⟨(uu :: uu :: uu :: ui :: ui :: un 23 []), []⟩⟩]
noncomputable def L3 : LC := ⟨3, ⟨3, [0, 3, 4, 5], []⟩, sh3, outs3, pre3, fn3⟩
noncomputable def H : List LC := [L3]
noncomputable def code (i : Nat) : Code := (loopsOf (bodyOf Try.f84)).getD i .skip
theorem lok3 : LoopOk E H (code 0) L3 := ⟨mu3, fun ⟨x1, x2, x3, x4, ()⟩ hp => rounds_ok (show L3.step E H (code 0) (x1, (x2, (x3, (x4, ())))) = raw3 x1 x2 x3 x4 from by kernel_rfl) (ok3 x1 x2 x3 x4 hp)⟩
theorem env : EnvOk Try.prog E := env_nil tys
theorem loops : ∀ c, Try.f84.body = some c → LoopsOk E H c := loops_of (by kernel_rfl) (by kernel_rfl) fun i l h => match i, h with
  | 0, h => Option.some.inj h ▸ lok3
  | n + 1, h => by cases h
theorem sound : Sound Try.prog 84 fs := fn_sound env mixed Try.func84 H loops fun ⟨x0, ()⟩ hw _ => (show runFn E H Try.f84 fs.ps fs.rs (x0, ()) = raw x0 from by kernel_rfl).trans (eq x0 hw)
theorem known : Seen Try.prog 84 fs := ⟨sound, _, Try.func84, by kernel_rfl, by kernel_rfl⟩
end spec_SumOf
namespace spec_l9Sum
noncomputable def fs : FS := ⟨[(.val (.sl 5 (.int .u8)) .f)], [((.sl 5 (.int .u8)), .o)], fun _ => true, fun x => ((), ((spec_l9Sum x.1), ()))⟩
noncomputable def E : Env := ⟨theta, [(84, spec_SumOf.fs)], []⟩
noncomputable def H : List LC := []
theorem env : EnvOk Try.prog E := env_cons spec_SumOf.known (env_nil tys)
theorem loops : ∀ c, Try.f45.body = some c → LoopsOk E H c := loops_none (by kernel_rfl)
theorem sound : Sound Try.prog 45 fs := fn_sound env mixed Try.func45 H loops fun ⟨x0, ()⟩ hw _ => (show runFn E H Try.f45 fs.ps fs.rs (x0, ()) = raw x0 from by kernel_rfl).trans (eq x0 hw)
theorem known : Seen Try.prog 45 fs := ⟨sound, _, Try.func45, by kernel_rfl, by kernel_rfl⟩
end spec_l9Sum
namespace spec_NoteBytes
noncomputable def fs : FS := ⟨[(.val tyS211 .f)], [((.sl 5 (.int .u8)), .o)], fun _ => true, fun x => ((), ((spec_NoteBytes x.1), ()))⟩
noncomputable def E : Env := ⟨theta, [(75, spec_PutNum.fs), (47, spec_NoteOk.fs), (74, spec_l9Body.fs), (45, spec_l9Sum.fs)], []⟩
noncomputable def H : List LC := []
theorem env : EnvOk Try.prog E := env_cons spec_PutNum.known (env_cons spec_NoteOk.known (env_cons spec_l9Body.known (env_cons spec_l9Sum.known (env_nil tys))))
theorem loops : ∀ c, Try.f40.body = some c → LoopsOk E H c := loops_none (by kernel_rfl)
theorem sound : Sound Try.prog 40 fs := fn_sound env mixed Try.func40 H loops fun ⟨x0, ()⟩ hw _ => (show runFn E H Try.f40 fs.ps fs.rs (x0, ()) = raw x0 from by kernel_rfl).trans (eq x0 hw)
theorem known : Seen Try.prog 40 fs := ⟨sound, _, Try.func40, by kernel_rfl, by kernel_rfl⟩
end spec_NoteBytes
namespace spec_l9DrawBytes
noncomputable def ob1 : List (Nat × ShO) := [(10000000, (.box (.pair (.sl 5 (.int .u8)) tyS27) (.dat (.pair (.sl 5 (.int .u8)) tyS27)))), (20000000, (.arr 5 (.int .u8)))]
noncomputable def fs : FS := ⟨[(.ref (.pair (.sl 5 (.int .u8)) tyS27) .f)], [((.sl 5 (.int .u8)), .o)], fun x => spec_l9DrawBytes.pre x.1, fun x => (((spec_l9DrawBytes x.1).1, ()), ((spec_l9DrawBytes x.1).2, ()))⟩
noncomputable def E : Env := ⟨theta, [(73, spec_l1Below.fs), (41, spec_l9DrawRight.fs), (40, spec_NoteBytes.fs)], []⟩
noncomputable def sh3 : ShSt := ⟨((.one (.bptr 10000000 [] (.pair (.sl 5 (.int .u8)) tyS27))) :: uu :: uu :: (.one (.arr 20000000)) :: ui :: un 13 []), ob1⟩
noncomputable def outs3 : List OutC := [⟨(.exit 0), ⟨0, [3, 0], [(3, (5, (.int .u8)))]⟩, ⟨((.one (.bptr 10000000 [] (.pair (.sl 5 (.int .u8)) tyS27))) :: uu :: uu :: (.one (.arr 20000000)) :: un 14 []), ob1⟩⟩]
noncomputable def L3 : LC := ⟨3, ⟨3, [0, 3, 4], [(3, (5, (.int .u8)))]⟩, sh3, outs3, pre3, fn3⟩
noncomputable def H : List LC := [L3]
noncomputable def code (i : Nat) : Code := (loopsOf (bodyOf Try.f36)).getD i .skip
theorem lok3 : LoopOk E H (code 0) L3 := ⟨mu3, fun ⟨x1, x2, x3, ()⟩ hp => rounds_ok (show L3.step E H (code 0) (x1, (x2, (x3, ()))) = raw3 x1 x2 x3 from by kernel_rfl) (ok3 x1 x2 x3 hp)⟩
theorem env : EnvOk Try.prog E := env_cons spec_l1Below.known (env_cons spec_l9DrawRight.known (env_cons spec_NoteBytes.known (env_nil tys)))
theorem loops : ∀ c, Try.f36.body = some c → LoopsOk E H c := loops_of (by kernel_rfl) (by kernel_rfl) fun i l h => match i, h with
  | 0, h => Option.some.inj h ▸ lok3
  | n + 1, h => by cases h
theorem sound : Sound Try.prog 36 fs := fn_sound env mixed Try.func36 H loops fun ⟨x0, ()⟩ hw hp => (show runFn E H Try.f36 fs.ps fs.rs (x0, ()) = raw x0 from by kernel_rfl).trans (eq x0 hw hp)
theorem known : Seen Try.prog 36 fs := ⟨sound, _, Try.func36, by kernel_rfl, by kernel_rfl⟩
end spec_l9DrawBytes
namespace spec_l10Draw
noncomputable def fs : FS := ⟨[(.ref (.pair (.sl 5 (.int .u8)) tyS27) .f)], [(tyS212, .o)], fun x => spec_l10Draw.pre x.1, fun x => (((spec_l10Draw x.1).1, ()), ((spec_l10Draw x.1).2, ()))⟩
noncomputable def E : Env := ⟨theta, [(73, spec_l1Below.fs), (31, spec_l1PickInt.fs), (36, spec_l9DrawBytes.fs)], []⟩
noncomputable def H : List LC := []
theorem env : EnvOk Try.prog E := env_cons spec_l1Below.known (env_cons spec_l1PickInt.known (env_cons spec_l9DrawBytes.known (env_nil tys)))
theorem loops : ∀ c, Try.f30.body = some c → LoopsOk E H c := loops_none (by kernel_rfl)
theorem sound : Sound Try.prog 30 fs := fn_sound env mixed Try.func30 H loops fun ⟨x0, ()⟩ hw hp => (show runFn E H Try.f30 fs.ps fs.rs (x0, ()) = raw x0 from by kernel_rfl).trans (eq x0 hw hp)
theorem known : Seen Try.prog 30 fs := ⟨sound, _, Try.func30, by kernel_rfl, by kernel_rfl⟩
end spec_l10Draw
namespace spec_DrawFall
noncomputable def fs : FS := ⟨[(.val (.sl 5 (.int .u8)) .f)], [(tyS212, .o), ((.int .i64), .o)], fun x => spec_DrawFall.pre x.1, fun x => ((), ((spec_DrawFall x.1).1, ((spec_DrawFall x.1).2, ())))⟩
noncomputable def E : Env := ⟨theta, [(29, spec_l1New.fs), (31, spec_l1PickInt.fs), (30, spec_l10Draw.fs)], []⟩
noncomputable def H : List LC := []
theorem env : EnvOk Try.prog E := env_cons spec_l1New.known (env_cons spec_l1PickInt.known (env_cons spec_l10Draw.known (env_nil tys)))
theorem loops : ∀ c, Try.f7.body = some c → LoopsOk E H c := loops_none (by kernel_rfl)
theorem sound : Sound Try.prog 7 fs := fn_sound env mixed Try.func7 H loops fun ⟨x0, ()⟩ hw hp => (show runFn E H Try.f7 fs.ps fs.rs (x0, ()) = raw x0 from by kernel_rfl).trans (eq x0 hw hp)
theorem known : Seen Try.prog 7 fs := ⟨sound, _, Try.func7, by kernel_rfl, by kernel_rfl⟩
end spec_DrawFall
namespace spec_DiskOk
noncomputable def fs : FS := ⟨[(.val tyS212 .f)], [(.bool, .o)], fun x => spec_DiskOk.pre x.1, fun x => ((), ((spec_DiskOk x.1), ()))⟩
noncomputable def E : Env := ⟨theta, [(38, spec_l1In.fs)], []⟩
noncomputable def H : List LC := []
theorem env : EnvOk Try.prog E := env_cons spec_l1In.known (env_nil tys)
theorem loops : ∀ c, Try.f18.body = some c → LoopsOk E H c := loops_none (by kernel_rfl)
theorem sound : Sound Try.prog 18 fs := fn_sound env mixed Try.func18 H loops fun ⟨x0, ()⟩ hw hp => (show runFn E H Try.f18 fs.ps fs.rs (x0, ()) = raw x0 from by kernel_rfl).trans (eq x0 hw hp)
theorem known : Seen Try.prog 18 fs := ⟨sound, _, Try.func18, by kernel_rfl, by kernel_rfl⟩
end spec_DiskOk
namespace spec_l10Copy
noncomputable def fs : FS := ⟨[(.val tyS212 .f)], [(tyS212, .o)], fun x => spec_l10Copy.pre x.1, fun x => ((), ((spec_l10Copy x.1), ()))⟩
noncomputable def E : Env := ⟨theta, [], []⟩
noncomputable def H : List LC := []
theorem env : EnvOk Try.prog E := env_nil tys
theorem loops : ∀ c, Try.f33.body = some c → LoopsOk E H c := loops_none (by kernel_rfl)
theorem sound : Sound Try.prog 33 fs := fn_sound env mixed Try.func33 H loops fun ⟨x0, ()⟩ hw hp => (show runFn E H Try.f33 fs.ps fs.rs (x0, ()) = raw x0 from by kernel_rfl).trans (eq x0 hw hp)
theorem known : Seen Try.prog 33 fs := ⟨sound, _, Try.func33, by kernel_rfl, by kernel_rfl⟩
end spec_l10Copy
namespace spec_Fall
noncomputable def fs : FS := ⟨[(.val tyS212 .f), (.val (.int .i64) .f)], [(tyS212, .o)], fun x => spec_Fall.pre x.1 x.2.1, fun x => ((), ((spec_Fall x.1 x.2.1), ()))⟩
noncomputable def E : Env := ⟨theta, [(35, spec_l1Min.fs), (34, spec_l1Max.fs), (18, spec_DiskOk.fs), (33, spec_l10Copy.fs)], []⟩
noncomputable def H : List LC := []
theorem env : EnvOk Try.prog E := env_cons spec_l1Min.known (env_cons spec_l1Max.known (env_cons spec_DiskOk.known (env_cons spec_l10Copy.known (env_nil tys))))
theorem loops : ∀ c, Try.f9.body = some c → LoopsOk E H c := loops_none (by kernel_rfl)
theorem sound : Sound Try.prog 9 fs := fn_sound env mixed Try.func9 H loops fun ⟨x0, x1, ()⟩ hw hp => (show runFn E H Try.f9 fs.ps fs.rs (x0, (x1, ())) = raw x0 x1 from by kernel_rfl).trans (eq x0 x1 hw hp)
theorem known : Seen Try.prog 9 fs := ⟨sound, _, Try.func9, by kernel_rfl, by kernel_rfl⟩
end spec_Fall
namespace spec_DrawAppend
noncomputable def fs : FS := ⟨[(.val (.sl 5 (.int .u8)) .f)], [(tyS212, .o), ((.sl 5 (.int .u8)), .o)], fun x => spec_DrawAppend.pre x.1, fun x => ((), ((spec_DrawAppend x.1).1, ((spec_DrawAppend x.1).2, ())))⟩
noncomputable def E : Env := ⟨theta, [(29, spec_l1New.fs), (36, spec_l9DrawBytes.fs), (30, spec_l10Draw.fs)], []⟩
noncomputable def H : List LC := []
theorem env : EnvOk Try.prog E := env_cons spec_l1New.known (env_cons spec_l9DrawBytes.known (env_cons spec_l10Draw.known (env_nil tys)))
theorem loops : ∀ c, Try.f10.body = some c → LoopsOk E H c := loops_none (by kernel_rfl)
theorem sound : Sound Try.prog 10 fs := fn_sound env mixed Try.func10 H loops fun ⟨x0, ()⟩ hw hp => (show runFn E H Try.f10 fs.ps fs.rs (x0, ()) = raw x0 from by kernel_rfl).trans (eq x0 hw hp)
theorem known : Seen Try.prog 10 fs := ⟨sound, _, Try.func10, by kernel_rfl, by kernel_rfl⟩
end spec_DrawAppend
namespace impl_within
noncomputable def fs : FS := ⟨[(.val (.int .i64) .f), (.val (.int .i64) .f), (.val (.int .i64) .f)], [(.bool, .o)], fun _ => true, fun x => ((), ((impl_within x.1 x.2.1 x.2.2.1), ()))⟩
noncomputable def E : Env := ⟨theta, [], []⟩
noncomputable def H : List LC := []
theorem env : EnvOk Try.prog E := env_nil tys
theorem loops : ∀ c, Try.f37.body = some c → LoopsOk E H c := loops_none (by kernel_rfl)
theorem sound : Sound Try.prog 37 fs := fn_sound env mixed Try.func37 H loops fun ⟨x0, x1, x2, ()⟩ hw _ => (show runFn E H Try.f37 fs.ps fs.rs (x0, (x1, (x2, ()))) = raw x0 x1 x2 from by kernel_rfl).trans (eq x0 x1 x2 hw)
theorem known : Seen Try.prog 37 fs := ⟨sound, _, Try.func37, by kernel_rfl, by kernel_rfl⟩
end impl_within
namespace impl_DiskOk
noncomputable def fs : FS := ⟨[(.val tyS212 .f)], [(.bool, .o)], fun x => impl_DiskOk.pre x.1, fun x => ((), ((impl_DiskOk x.1), ()))⟩
noncomputable def E : Env := ⟨theta, [(37, impl_within.fs)], []⟩
noncomputable def H : List LC := []
theorem env : EnvOk Try.prog E := env_cons impl_within.known (env_nil tys)
theorem loops : ∀ c, Try.f17.body = some c → LoopsOk E H c := loops_none (by kernel_rfl)
theorem sound : Sound Try.prog 17 fs := fn_sound env mixed Try.func17 H loops fun ⟨x0, ()⟩ hw hp => (show runFn E H Try.f17 fs.ps fs.rs (x0, ()) = raw x0 from by kernel_rfl).trans (eq x0 hw hp)
theorem known : Seen Try.prog 17 fs := ⟨sound, _, Try.func17, by kernel_rfl, by kernel_rfl⟩
end impl_DiskOk
namespace impl_copyDisk
noncomputable def fs : FS := ⟨[(.val tyS212 .f)], [(tyS212, .o)], fun x => impl_copyDisk.pre x.1, fun x => ((), ((impl_copyDisk x.1), ()))⟩
noncomputable def E : Env := ⟨theta, [], []⟩
noncomputable def H : List LC := []
theorem env : EnvOk Try.prog E := env_nil tys
theorem loops : ∀ c, Try.f32.body = some c → LoopsOk E H c := loops_none (by kernel_rfl)
theorem sound : Sound Try.prog 32 fs := fn_sound env mixed Try.func32 H loops fun ⟨x0, ()⟩ hw hp => (show runFn E H Try.f32 fs.ps fs.rs (x0, ()) = raw x0 from by kernel_rfl).trans (eq x0 hw hp)
theorem known : Seen Try.prog 32 fs := ⟨sound, _, Try.func32, by kernel_rfl, by kernel_rfl⟩
end impl_copyDisk
namespace impl_Append
noncomputable def fs : FS := ⟨[(.val tyS212 .f), (.val (.sl 5 (.int .u8)) .f)], [(tyS212, .o), (.bool, .o)], fun x => impl_Append.pre x.1 x.2.1, fun x => ((), ((impl_Append x.1 x.2.1).1, ((impl_Append x.1 x.2.1).2, ())))⟩
noncomputable def E : Env := ⟨theta, [(17, impl_DiskOk.fs), (32, impl_copyDisk.fs)], []⟩
noncomputable def H : List LC := []
theorem env : EnvOk Try.prog E := env_cons impl_DiskOk.known (env_cons impl_copyDisk.known (env_nil tys))
theorem loops : ∀ c, Try.f11.body = some c → LoopsOk E H c := loops_none (by kernel_rfl)
theorem sound : Sound Try.prog 11 fs := fn_sound env mixed Try.func11 H loops fun ⟨x0, x1, ()⟩ hw hp => (show runFn E H Try.f11 fs.ps fs.rs (x0, (x1, ())) = raw x0 x1 from by kernel_rfl).trans (eq x0 x1 hw hp)
theorem known : Seen Try.prog 11 fs := ⟨sound, _, Try.func11, by kernel_rfl, by kernel_rfl⟩
end impl_Append
namespace spec_Append
noncomputable def fs : FS := ⟨[(.val tyS212 .f), (.val (.sl 5 (.int .u8)) .f)], [(tyS212, .o), (.bool, .o)], fun x => spec_Append.pre x.1 x.2.1, fun x => ((), ((spec_Append x.1 x.2.1).1, ((spec_Append x.1 x.2.1).2, ())))⟩
noncomputable def E : Env := ⟨theta, [(18, spec_DiskOk.fs), (33, spec_l10Copy.fs)], []⟩
noncomputable def H : List LC := []
theorem env : EnvOk Try.prog E := env_cons spec_DiskOk.known (env_cons spec_l10Copy.known (env_nil tys))
theorem loops : ∀ c, Try.f12.body = some c → LoopsOk E H c := loops_none (by kernel_rfl)
theorem sound : Sound Try.prog 12 fs := fn_sound env mixed Try.func12 H loops fun ⟨x0, x1, ()⟩ hw hp => (show runFn E H Try.f12 fs.ps fs.rs (x0, (x1, ())) = raw x0 x1 from by kernel_rfl).trans (eq x0 x1 hw hp)
theorem known : Seen Try.prog 12 fs := ⟨sound, _, Try.func12, by kernel_rfl, by kernel_rfl⟩
end spec_Append
namespace spec_DrawSync
noncomputable def fs : FS := ⟨[(.val (.sl 5 (.int .u8)) .f)], [(tyS212, .o)], fun x => spec_DrawSync.pre x.1, fun x => ((), ((spec_DrawSync x.1), ()))⟩
noncomputable def E : Env := ⟨theta, [(29, spec_l1New.fs), (30, spec_l10Draw.fs)], []⟩
noncomputable def H : List LC := []
theorem env : EnvOk Try.prog E := env_cons spec_l1New.known (env_cons spec_l10Draw.known (env_nil tys))
theorem loops : ∀ c, Try.f13.body = some c → LoopsOk E H c := loops_none (by kernel_rfl)
theorem sound : Sound Try.prog 13 fs := fn_sound env mixed Try.func13 H loops fun ⟨x0, ()⟩ hw hp => (show runFn E H Try.f13 fs.ps fs.rs (x0, ()) = raw x0 from by kernel_rfl).trans (eq x0 hw hp)
theorem known : Seen Try.prog 13 fs := ⟨sound, _, Try.func13, by kernel_rfl, by kernel_rfl⟩
end spec_DrawSync
namespace spec_DrawDiskOk
noncomputable def fs : FS := ⟨[(.val (.sl 5 (.int .u8)) .f)], [(tyS212, .o)], fun x => spec_DrawDiskOk.pre x.1, fun x => ((), ((spec_DrawDiskOk x.1), ()))⟩
noncomputable def E : Env := ⟨theta, [(29, spec_l1New.fs), (30, spec_l10Draw.fs)], []⟩
noncomputable def H : List LC := []
theorem env : EnvOk Try.prog E := env_cons spec_l1New.known (env_cons spec_l10Draw.known (env_nil tys))
theorem loops : ∀ c, Try.f15.body = some c → LoopsOk E H c := loops_none (by kernel_rfl)
theorem sound : Sound Try.prog 15 fs := fn_sound env mixed Try.func15 H loops fun ⟨x0, ()⟩ hw hp => (show runFn E H Try.f15 fs.ps fs.rs (x0, ()) = raw x0 from by kernel_rfl).trans (eq x0 hw hp)
theorem known : Seen Try.prog 15 fs := ⟨sound, _, Try.func15, by kernel_rfl, by kernel_rfl⟩
end spec_DrawDiskOk
namespace spec_Sync
noncomputable def fs : FS := ⟨[(.val tyS212 .f)], [(tyS212, .o)], fun x => spec_Sync.pre x.1, fun x => ((), ((spec_Sync x.1), ()))⟩
noncomputable def E : Env := ⟨theta, [(18, spec_DiskOk.fs), (33, spec_l10Copy.fs)], []⟩
noncomputable def H : List LC := []
theorem env : EnvOk Try.prog E := env_cons spec_DiskOk.known (env_cons spec_l10Copy.known (env_nil tys))
theorem loops : ∀ c, Try.f16.body = some c → LoopsOk E H c := loops_none (by kernel_rfl)
theorem sound : Sound Try.prog 16 fs := fn_sound env mixed Try.func16 H loops fun ⟨x0, ()⟩ hw hp => (show runFn E H Try.f16 fs.ps fs.rs (x0, ()) = raw x0 from by kernel_rfl).trans (eq x0 hw hp)
theorem known : Seen Try.prog 16 fs := ⟨sound, _, Try.func16, by kernel_rfl, by kernel_rfl⟩
end spec_Sync
namespace impl_Sync
noncomputable def fs : FS := ⟨[(.val tyS212 .f)], [(tyS212, .o)], fun x => impl_Sync.pre x.1, fun x => ((), ((impl_Sync x.1), ()))⟩
noncomputable def E : Env := ⟨theta, [(17, impl_DiskOk.fs), (32, impl_copyDisk.fs)], []⟩
noncomputable def H : List LC := []
theorem env : EnvOk Try.prog E := env_cons impl_DiskOk.known (env_cons impl_copyDisk.known (env_nil tys))
theorem loops : ∀ c, Try.f14.body = some c → LoopsOk E H c := loops_none (by kernel_rfl)
theorem sound : Sound Try.prog 14 fs := fn_sound env mixed Try.func14 H loops fun ⟨x0, ()⟩ hw hp => (show runFn E H Try.f14 fs.ps fs.rs (x0, ()) = raw x0 from by kernel_rfl).trans (eq x0 hw hp)
theorem known : Seen Try.prog 14 fs := ⟨sound, _, Try.func14, by kernel_rfl, by kernel_rfl⟩
end impl_Sync
namespace impl_Fall
noncomputable def fs : FS := ⟨[(.val tyS212 .f), (.val (.int .i64) .f)], [(tyS212, .o)], fun x => impl_Fall.pre x.1 x.2.1, fun x => ((), ((impl_Fall x.1 x.2.1), ()))⟩
noncomputable def E : Env := ⟨theta, [(17, impl_DiskOk.fs), (32, impl_copyDisk.fs)], []⟩
noncomputable def H : List LC := []
theorem env : EnvOk Try.prog E := env_cons impl_DiskOk.known (env_cons impl_copyDisk.known (env_nil tys))
theorem loops : ∀ c, Try.f8.body = some c → LoopsOk E H c := loops_none (by kernel_rfl)
theorem sound : Sound Try.prog 8 fs := fn_sound env mixed Try.func8 H loops fun ⟨x0, x1, ()⟩ hw hp => (show runFn E H Try.f8 fs.ps fs.rs (x0, (x1, ())) = raw x0 x1 from by kernel_rfl).trans (eq x0 x1 hw hp)
theorem known : Seen Try.prog 8 fs := ⟨sound, _, Try.func8, by kernel_rfl, by kernel_rfl⟩
end impl_Fall
namespace laws_FnDisks
noncomputable def fs : FS := ⟨[(.val (.sl 5 (.int .u8)) .f)], [(.bool, .o)], fun _ => true, fun x => ((), ((laws_FnDisks x.1), ()))⟩
noncomputable def E : Env := ⟨theta, [(6, laws_big.fs), (7, spec_DrawFall.fs), (18, spec_DiskOk.fs), (9, spec_Fall.fs), (10, spec_DrawAppend.fs), (17, impl_DiskOk.fs), (11, impl_Append.fs), (12, spec_Append.fs), (13, spec_DrawSync.fs), (15, spec_DrawDiskOk.fs), (16, spec_Sync.fs), (14, impl_Sync.fs), (8, impl_Fall.fs)], []⟩
noncomputable def H : List LC := []
theorem env : EnvOk Try.prog E := env_cons laws_big.known (env_cons spec_DrawFall.known (env_cons spec_DiskOk.known (env_cons spec_Fall.known (env_cons spec_DrawAppend.known (env_cons impl_DiskOk.known (env_cons impl_Append.known (env_cons spec_Append.known (env_cons spec_DrawSync.known (env_cons spec_DrawDiskOk.known (env_cons spec_Sync.known (env_cons impl_Sync.known (env_cons impl_Fall.known (env_nil tys)))))))))))))
theorem loops : ∀ c, Try.f3.body = some c → LoopsOk E H c := loops_none (by kernel_rfl)
theorem sound : Sound Try.prog 3 fs := fn_sound env mixed Try.func3 H loops fun ⟨x0, ()⟩ hw _ => (show runFn E H Try.f3 fs.ps fs.rs (x0, ()) = raw x0 from by kernel_rfl).trans (eq x0 hw)
theorem known : Seen Try.prog 3 fs := ⟨sound, _, Try.func3, by kernel_rfl, by kernel_rfl⟩
end laws_FnDisks
end
end Go.Aw.Pl
