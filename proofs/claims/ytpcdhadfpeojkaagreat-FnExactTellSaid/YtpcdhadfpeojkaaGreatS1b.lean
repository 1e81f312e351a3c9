import Derived.Test.YtpcdhadfpeojkaaGreatS1a
namespace Go.Aw.Pl
open Go Go.Aw Go.Proofs
set_option linter.unusedVariables false
set_option maxRecDepth 20000
namespace laws_toRowS
noncomputable def fs : FS := ⟨[(.val (.sl 325 (.pair (.int .i64) (.pair (.int .i64) (.pair (.sl 380 tyS16) .unit)))) .f)], [((.sl 42 tyS111), .o)], fun x => laws_toRowS.pre x.1, fun x => ((), ((laws_toRowS x.1), ()))⟩
noncomputable def E : Env := ⟨theta, [(318, laws_toRow.fs)], []⟩
noncomputable def sh3 : ShSt := ⟨[(.one (.dat (.sl 325 (.pair (.int .i64) (.pair (.int .i64) (.pair (.sl 380 tyS16) .unit)))))), uu, uu, (.one (.arr 20000000)), ui, uu, uu, uu, uu, uu, uu, uu, uu, uu, uu, uu, uu, uu, uu, uu, uu, uu, uu], [(20000000, (.arr 42 tyS111))]⟩
noncomputable def outs3 : List OutC := [⟨(.exit 0), ⟨0, [3], []⟩, ⟨[uu, uu, uu, (.one (.arr 20000000)), uu, uu, uu, uu, uu, uu, uu, uu, uu, uu, uu, uu, uu, uu, uu, uu, uu, uu, uu], [(20000000, (.arr 42 tyS111))]⟩⟩]
noncomputable def L3 : LC := ⟨3, ⟨3, [0, 3, 4], []⟩, sh3, outs3, pre3, fn3⟩
noncomputable def H : List LC := [L3]
noncomputable def code (i : Nat) : Code := (loopsOf (bodyOf Tryz.f262)).getD i .skip
theorem step3 (x1 : (List Row)) (x2 : Int) (x3 : (List Row)) : L3.step E H (code 0) (x1, (x2, (x3, ()))) = raw3 x1 x2 x3 := by kernel_rfl
theorem lok3 : LoopOk E H (code 0) L3 := ⟨mu3, fun ⟨x1, x2, x3, ()⟩ hp => rounds_ok (step3 x1 x2 x3) (ok3 x1 x2 x3 hp)⟩
theorem run (x0 : (List Row)) : runFn E H Tryz.f262 fs.ps fs.rs (x0, ()) = raw x0 := by kernel_rfl
theorem env : EnvOk Tryz.prog E := env_cons laws_toRow.known (env_nil tys)
theorem loops : ∀ c, Tryz.f262.body = some c → LoopsOk E H c := loops_of (by kernel_rfl) (by kernel_rfl) fun i l h => match i, h with
  | 0, h => Option.some.inj h ▸ lok3
  | n + 1, h => by cases h
theorem sound : Sound Tryz.prog 262 fs := fn_sound env mixed Tryz.func262 H loops fun ⟨x0, ()⟩ hw hp => (run x0).trans (eq x0 hw hp)
theorem known : Seen Tryz.prog 262 fs := ⟨sound, _, Tryz.func262, by kernel_rfl, by kernel_rfl⟩
end laws_toRowS
namespace laws_toMark
noncomputable def fs : FS := ⟨[(.val tyS113 .f)], [(tyS113, .o)], fun _ => true, fun x => ((), ((laws_toMark x.1), ()))⟩
noncomputable def E : Env := ⟨theta, [], []⟩
noncomputable def H : List LC := []
noncomputable def code (i : Nat) : Code := (loopsOf (bodyOf Tryz.f391)).getD i .skip
theorem run (x0 : Mark) : runFn E H Tryz.f391 fs.ps fs.rs (x0, ()) = raw x0 := by kernel_rfl
theorem env : EnvOk Tryz.prog E := env_nil tys
theorem loops : ∀ c, Tryz.f391.body = some c → LoopsOk E H c := loops_none (by kernel_rfl)
theorem sound : Sound Tryz.prog 391 fs := fn_sound env mixed Tryz.func391 H loops fun ⟨x0, ()⟩ hw _ => (run x0).trans (eq x0 hw)
theorem known : Seen Tryz.prog 391 fs := ⟨sound, _, Tryz.func391, by kernel_rfl, by kernel_rfl⟩
end laws_toMark
namespace laws_toMarkS
noncomputable def fs : FS := ⟨[(.val (.sl 383 tyS113) .f)], [((.sl 254 tyS113), .o)], fun x => laws_toMarkS.pre x.1, fun x => ((), ((laws_toMarkS x.1), ()))⟩
noncomputable def E : Env := ⟨theta, [(391, laws_toMark.fs)], []⟩
noncomputable def sh3 : ShSt := ⟨[(.one (.dat (.sl 383 tyS113))), uu, uu, (.one (.arr 20000000)), ui, uu, uu, uu, uu, uu, uu, uu, uu, uu, uu, uu, uu, uu, uu, uu, uu, uu, uu], [(20000000, (.arr 254 tyS113))]⟩
noncomputable def outs3 : List OutC := [⟨(.exit 0), ⟨0, [3], []⟩, ⟨[uu, uu, uu, (.one (.arr 20000000)), uu, uu, uu, uu, uu, uu, uu, uu, uu, uu, uu, uu, uu, uu, uu, uu, uu, uu, uu], [(20000000, (.arr 254 tyS113))]⟩⟩]
noncomputable def L3 : LC := ⟨3, ⟨3, [0, 3, 4], []⟩, sh3, outs3, pre3, fn3⟩
noncomputable def H : List LC := [L3]
noncomputable def code (i : Nat) : Code := (loopsOf (bodyOf Tryz.f360)).getD i .skip
theorem step3 (x1 : (List Mark)) (x2 : Int) (x3 : (List Mark)) : L3.step E H (code 0) (x1, (x2, (x3, ()))) = raw3 x1 x2 x3 := by kernel_rfl
theorem lok3 : LoopOk E H (code 0) L3 := ⟨mu3, fun ⟨x1, x2, x3, ()⟩ hp => rounds_ok (step3 x1 x2 x3) (ok3 x1 x2 x3 hp)⟩
theorem run (x0 : (List Mark)) : runFn E H Tryz.f360 fs.ps fs.rs (x0, ()) = raw x0 := by kernel_rfl
theorem env : EnvOk Tryz.prog E := env_cons laws_toMark.known (env_nil tys)
theorem loops : ∀ c, Tryz.f360.body = some c → LoopsOk E H c := loops_of (by kernel_rfl) (by kernel_rfl) fun i l h => match i, h with
  | 0, h => Option.some.inj h ▸ lok3
  | n + 1, h => by cases h
theorem sound : Sound Tryz.prog 360 fs := fn_sound env mixed Tryz.func360 H loops fun ⟨x0, ()⟩ hw hp => (run x0).trans (eq x0 hw hp)
theorem known : Seen Tryz.prog 360 fs := ⟨sound, _, Tryz.func360, by kernel_rfl, by kernel_rfl⟩
end laws_toMarkS
namespace laws_toMaker
noncomputable def fs : FS := ⟨[(.val tyS115 .f)], [(tyS15, .o)], fun x => laws_toMaker.pre x.1, fun x => ((), ((laws_toMaker x.1), ()))⟩
noncomputable def E : Env := ⟨theta, [(360, laws_toMarkS.fs)], []⟩
noncomputable def H : List LC := []
noncomputable def code (i : Nat) : Code := (loopsOf (bodyOf Tryz.f319)).getD i .skip
theorem run (x0 : Maker) : runFn E H Tryz.f319 fs.ps fs.rs (x0, ()) = raw x0 := by kernel_rfl
theorem env : EnvOk Tryz.prog E := env_cons laws_toMarkS.known (env_nil tys)
theorem loops : ∀ c, Tryz.f319.body = some c → LoopsOk E H c := loops_none (by kernel_rfl)
theorem sound : Sound Tryz.prog 319 fs := fn_sound env mixed Tryz.func319 H loops fun ⟨x0, ()⟩ hw hp => (run x0).trans (eq x0 hw hp)
theorem known : Seen Tryz.prog 319 fs := ⟨sound, _, Tryz.func319, by kernel_rfl, by kernel_rfl⟩
end laws_toMaker
namespace laws_toMakerS
noncomputable def fs : FS := ⟨[(.val (.sl 329 tyS115) .f)], [((.sl 156 tyS15), .o)], fun x => laws_toMakerS.pre x.1, fun x => ((), ((laws_toMakerS x.1), ()))⟩
noncomputable def E : Env := ⟨theta, [(319, laws_toMaker.fs)], []⟩
noncomputable def sh3 : ShSt := ⟨[(.one (.dat (.sl 329 tyS115))), uu, uu, (.one (.arr 20000000)), ui, uu, uu, uu, uu, uu, uu, uu, uu, uu, uu, uu, uu, uu, uu, uu, uu, uu, uu], [(20000000, (.arr 156 tyS15))]⟩
noncomputable def outs3 : List OutC := [⟨(.exit 0), ⟨0, [3], []⟩, ⟨[uu, uu, uu, (.one (.arr 20000000)), uu, uu, uu, uu, uu, uu, uu, uu, uu, uu, uu, uu, uu, uu, uu, uu, uu, uu, uu], [(20000000, (.arr 156 tyS15))]⟩⟩]
noncomputable def L3 : LC := ⟨3, ⟨3, [0, 3, 4], []⟩, sh3, outs3, pre3, fn3⟩
noncomputable def H : List LC := [L3]
noncomputable def code (i : Nat) : Code := (loopsOf (bodyOf Tryz.f263)).getD i .skip
theorem step3 (x1 : (List Maker)) (x2 : Int) (x3 : (List Maker)) : L3.step E H (code 0) (x1, (x2, (x3, ()))) = raw3 x1 x2 x3 := by kernel_rfl
theorem lok3 : LoopOk E H (code 0) L3 := ⟨mu3, fun ⟨x1, x2, x3, ()⟩ hp => rounds_ok (step3 x1 x2 x3) (ok3 x1 x2 x3 hp)⟩
theorem run (x0 : (List Maker)) : runFn E H Tryz.f263 fs.ps fs.rs (x0, ()) = raw x0 := by kernel_rfl
theorem env : EnvOk Tryz.prog E := env_cons laws_toMaker.known (env_nil tys)
theorem loops : ∀ c, Tryz.f263.body = some c → LoopsOk E H c := loops_of (by kernel_rfl) (by kernel_rfl) fun i l h => match i, h with
  | 0, h => Option.some.inj h ▸ lok3
  | n + 1, h => by cases h
theorem sound : Sound Tryz.prog 263 fs := fn_sound env mixed Tryz.func263 H loops fun ⟨x0, ()⟩ hw hp => (run x0).trans (eq x0 hw hp)
theorem known : Seen Tryz.prog 263 fs := ⟨sound, _, Tryz.func263, by kernel_rfl, by kernel_rfl⟩
end laws_toMakerS
namespace laws_toIntS
noncomputable def fs : FS := ⟨[(.val (.sl 3 (.int .i64)) .f)], [((.sl 3 (.int .i64)), .o)], fun x => laws_toIntS.pre x.1, fun x => ((), ((laws_toIntS x.1), ()))⟩
noncomputable def E : Env := ⟨theta, [], []⟩
noncomputable def sh3 : ShSt := ⟨[(.one (.dat (.sl 3 (.int .i64)))), uu, uu, (.one (.arr 20000000)), ui, uu, uu, uu, uu, uu, uu, uu, uu, uu, uu, uu, uu, uu, uu, uu, uu, uu], [(20000000, (.arr 3 (.int .i64)))]⟩
noncomputable def outs3 : List OutC := [⟨(.exit 0), ⟨0, [3], []⟩, ⟨[uu, uu, uu, (.one (.arr 20000000)), uu, uu, uu, uu, uu, uu, uu, uu, uu, uu, uu, uu, uu, uu, uu, uu, uu, uu], [(20000000, (.arr 3 (.int .i64)))]⟩⟩]
noncomputable def L3 : LC := ⟨3, ⟨3, [0, 3, 4], []⟩, sh3, outs3, pre3, fn3⟩
noncomputable def H : List LC := [L3]
noncomputable def code (i : Nat) : Code := (loopsOf (bodyOf Tryz.f168)).getD i .skip
theorem step3 (x1 : (List Int)) (x2 : Int) (x3 : (List Int)) : L3.step E H (code 0) (x1, (x2, (x3, ()))) = raw3 x1 x2 x3 := by kernel_rfl
theorem lok3 : LoopOk E H (code 0) L3 := ⟨mu3, fun ⟨x1, x2, x3, ()⟩ hp => rounds_ok (step3 x1 x2 x3) (ok3 x1 x2 x3 hp)⟩
theorem run (x0 : (List Int)) : runFn E H Tryz.f168 fs.ps fs.rs (x0, ()) = raw x0 := by kernel_rfl
theorem env : EnvOk Tryz.prog E := env_nil tys
theorem loops : ∀ c, Tryz.f168.body = some c → LoopsOk E H c := loops_of (by kernel_rfl) (by kernel_rfl) fun i l h => match i, h with
  | 0, h => Option.some.inj h ▸ lok3
  | n + 1, h => by cases h
theorem sound : Sound Tryz.prog 168 fs := fn_sound env mixed Tryz.func168 H loops fun ⟨x0, ()⟩ hw hp => (run x0).trans (eq x0 hw hp)
theorem known : Seen Tryz.prog 168 fs := ⟨sound, _, Tryz.func168, by kernel_rfl, by kernel_rfl⟩
end laws_toIntS
namespace laws_toGroup
noncomputable def fs : FS := ⟨[(.val tyS18 .f)], [(tyS18, .o)], fun x => laws_toGroup.pre x.1, fun x => ((), ((laws_toGroup x.1), ()))⟩
noncomputable def E : Env := ⟨theta, [(168, laws_toIntS.fs)], []⟩
noncomputable def H : List LC := []
noncomputable def code (i : Nat) : Code := (loopsOf (bodyOf Tryz.f320)).getD i .skip
theorem run (x0 : Group) : runFn E H Tryz.f320 fs.ps fs.rs (x0, ()) = raw x0 := by kernel_rfl
theorem env : EnvOk Tryz.prog E := env_cons laws_toIntS.known (env_nil tys)
theorem loops : ∀ c, Tryz.f320.body = some c → LoopsOk E H c := loops_none (by kernel_rfl)
theorem sound : Sound Tryz.prog 320 fs := fn_sound env mixed Tryz.func320 H loops fun ⟨x0, ()⟩ hw hp => (run x0).trans (eq x0 hw hp)
theorem known : Seen Tryz.prog 320 fs := ⟨sound, _, Tryz.func320, by kernel_rfl, by kernel_rfl⟩
end laws_toGroup
namespace laws_toGroupS
noncomputable def fs : FS := ⟨[(.val (.sl 331 tyS18) .f)], [((.sl 159 tyS18), .o)], fun x => laws_toGroupS.pre x.1, fun x => ((), ((laws_toGroupS x.1), ()))⟩
noncomputable def E : Env := ⟨theta, [(320, laws_toGroup.fs)], []⟩
noncomputable def sh3 : ShSt := ⟨[(.one (.dat (.sl 331 tyS18))), uu, uu, (.one (.arr 20000000)), ui, uu, uu, uu, uu, uu, uu, uu, uu, uu, uu, uu, uu, uu, uu, uu, uu, uu, uu], [(20000000, (.arr 159 tyS18))]⟩
noncomputable def outs3 : List OutC := [⟨(.exit 0), ⟨0, [3], []⟩, ⟨[uu, uu, uu, (.one (.arr 20000000)), uu, uu, uu, uu, uu, uu, uu, uu, uu, uu, uu, uu, uu, uu, uu, uu, uu, uu, uu], [(20000000, (.arr 159 tyS18))]⟩⟩]
noncomputable def L3 : LC := ⟨3, ⟨3, [0, 3, 4], []⟩, sh3, outs3, pre3, fn3⟩
noncomputable def H : List LC := [L3]
noncomputable def code (i : Nat) : Code := (loopsOf (bodyOf Tryz.f264)).getD i .skip
theorem step3 (x1 : (List Group)) (x2 : Int) (x3 : (List Group)) : L3.step E H (code 0) (x1, (x2, (x3, ()))) = raw3 x1 x2 x3 := by kernel_rfl
theorem lok3 : LoopOk E H (code 0) L3 := ⟨mu3, fun ⟨x1, x2, x3, ()⟩ hp => rounds_ok (step3 x1 x2 x3) (ok3 x1 x2 x3 hp)⟩
theorem run (x0 : (List Group)) : runFn E H Tryz.f264 fs.ps fs.rs (x0, ()) = raw x0 := by kernel_rfl
theorem env : EnvOk Tryz.prog E := env_cons laws_toGroup.known (env_nil tys)
theorem loops : ∀ c, Tryz.f264.body = some c → LoopsOk E H c := loops_of (by kernel_rfl) (by kernel_rfl) fun i l h => match i, h with
  | 0, h => Option.some.inj h ▸ lok3
  | n + 1, h => by cases h
theorem sound : Sound Tryz.prog 264 fs := fn_sound env mixed Tryz.func264 H loops fun ⟨x0, ()⟩ hw hp => (run x0).trans (eq x0 hw hp)
theorem known : Seen Tryz.prog 264 fs := ⟨sound, _, Tryz.func264, by kernel_rfl, by kernel_rfl⟩
end laws_toGroupS
namespace laws_toAnswer
noncomputable def fs : FS := ⟨[(.val tyS19 .f)], [(tyS19, .o)], fun _ => true, fun x => ((), ((laws_toAnswer x.1), ()))⟩
noncomputable def E : Env := ⟨theta, [], []⟩
noncomputable def H : List LC := []
noncomputable def code (i : Nat) : Code := (loopsOf (bodyOf Tryz.f321)).getD i .skip
theorem run (x0 : Answer) : runFn E H Tryz.f321 fs.ps fs.rs (x0, ()) = raw x0 := by kernel_rfl
theorem env : EnvOk Tryz.prog E := env_nil tys
theorem loops : ∀ c, Tryz.f321.body = some c → LoopsOk E H c := loops_none (by kernel_rfl)
theorem sound : Sound Tryz.prog 321 fs := fn_sound env mixed Tryz.func321 H loops fun ⟨x0, ()⟩ hw _ => (run x0).trans (eq x0 hw)
theorem known : Seen Tryz.prog 321 fs := ⟨sound, _, Tryz.func321, by kernel_rfl, by kernel_rfl⟩
end laws_toAnswer
namespace laws_toAnswerS
noncomputable def fs : FS := ⟨[(.val (.sl 333 tyS19) .f)], [((.sl 48 tyS19), .o)], fun x => laws_toAnswerS.pre x.1, fun x => ((), ((laws_toAnswerS x.1), ()))⟩
noncomputable def E : Env := ⟨theta, [(321, laws_toAnswer.fs)], []⟩
noncomputable def sh3 : ShSt := ⟨[(.one (.dat (.sl 333 tyS19))), uu, uu, (.one (.arr 20000000)), ui, uu, uu, uu, uu, uu, uu, uu, uu, uu, uu, uu, uu, uu, uu, uu, uu, uu, uu], [(20000000, (.arr 48 tyS19))]⟩
noncomputable def outs3 : List OutC := [⟨(.exit 0), ⟨0, [3], []⟩, ⟨[uu, uu, uu, (.one (.arr 20000000)), uu, uu, uu, uu, uu, uu, uu, uu, uu, uu, uu, uu, uu, uu, uu, uu, uu, uu, uu], [(20000000, (.arr 48 tyS19))]⟩⟩]
noncomputable def L3 : LC := ⟨3, ⟨3, [0, 3, 4], []⟩, sh3, outs3, pre3, fn3⟩
noncomputable def H : List LC := [L3]
noncomputable def code (i : Nat) : Code := (loopsOf (bodyOf Tryz.f265)).getD i .skip
theorem step3 (x1 : (List Answer)) (x2 : Int) (x3 : (List Answer)) : L3.step E H (code 0) (x1, (x2, (x3, ()))) = raw3 x1 x2 x3 := by kernel_rfl
theorem lok3 : LoopOk E H (code 0) L3 := ⟨mu3, fun ⟨x1, x2, x3, ()⟩ hp => rounds_ok (step3 x1 x2 x3) (ok3 x1 x2 x3 hp)⟩
theorem run (x0 : (List Answer)) : runFn E H Tryz.f265 fs.ps fs.rs (x0, ()) = raw x0 := by kernel_rfl
theorem env : EnvOk Tryz.prog E := env_cons laws_toAnswer.known (env_nil tys)
theorem loops : ∀ c, Tryz.f265.body = some c → LoopsOk E H c := loops_of (by kernel_rfl) (by kernel_rfl) fun i l h => match i, h with
  | 0, h => Option.some.inj h ▸ lok3
  | n + 1, h => by cases h
theorem sound : Sound Tryz.prog 265 fs := fn_sound env mixed Tryz.func265 H loops fun ⟨x0, ()⟩ hw hp => (run x0).trans (eq x0 hw hp)
theorem known : Seen Tryz.prog 265 fs := ⟨sound, _, Tryz.func265, by kernel_rfl, by kernel_rfl⟩
end laws_toAnswerS
namespace laws_toKeep
noncomputable def fs : FS := ⟨[(.val tyS13 .f)], [(tyS11, .o)], fun x => laws_toKeep.pre x.1, fun x => ((), ((laws_toKeep x.1), ()))⟩
noncomputable def E : Env := ⟨theta, [(262, laws_toRowS.fs), (263, laws_toMakerS.fs), (168, laws_toIntS.fs), (264, laws_toGroupS.fs), (265, laws_toAnswerS.fs)], []⟩
noncomputable def H : List LC := []
noncomputable def code (i : Nat) : Code := (loopsOf (bodyOf Tryz.f169)).getD i .skip
theorem run (x0 : ((List Row) × ((List Maker) × ((List Group) × (Int × ((List Int) × ((List Answer) × Unit))))))) : runFn E H Tryz.f169 fs.ps fs.rs (x0, ()) = raw x0 := by kernel_rfl
theorem env : EnvOk Tryz.prog E := env_cons laws_toRowS.known (env_cons laws_toMakerS.known (env_cons laws_toIntS.known (env_cons laws_toGroupS.known (env_cons laws_toAnswerS.known (env_nil tys)))))
theorem loops : ∀ c, Tryz.f169.body = some c → LoopsOk E H c := loops_none (by kernel_rfl)
theorem sound : Sound Tryz.prog 169 fs := fn_sound env mixed Tryz.func169 H loops fun ⟨x0, ()⟩ hw hp => (run x0).trans (eq x0 hw hp)
theorem known : Seen Tryz.prog 169 fs := ⟨sound, _, Tryz.func169, by kernel_rfl, by kernel_rfl⟩
end laws_toKeep
namespace laws_toHard
noncomputable def fs : FS := ⟨[(.val (.pair (.int .i64) (.pair (.int .i64) (.pair (.pair (.int .i64) (.pair (.int .i64) (.pair (.sl 293 tyS12) .unit))) (.pair tyS13 .unit)))) .f)], [((.pair (.int .i64) (.pair (.int .i64) (.pair tyS114 (.pair tyS11 .unit)))), .o)], fun x => laws_toHard.pre x.1, fun x => ((), ((laws_toHard x.1), ()))⟩
noncomputable def E : Env := ⟨theta, [(261, laws_toLog.fs), (169, laws_toKeep.fs)], []⟩
noncomputable def H : List LC := []
noncomputable def code (i : Nat) : Code := (loopsOf (bodyOf Tryz.f166)).getD i .skip
theorem run (x0 : (Int × (Int × (Log × (((List Row) × ((List Maker) × ((List Group) × (Int × ((List Int) × ((List Answer) × Unit)))))) × Unit))))) : runFn E H Tryz.f166 fs.ps fs.rs (x0, ()) = raw x0 := by kernel_rfl
theorem env : EnvOk Tryz.prog E := env_cons laws_toLog.known (env_cons laws_toKeep.known (env_nil tys))
theorem loops : ∀ c, Tryz.f166.body = some c → LoopsOk E H c := loops_none (by kernel_rfl)
theorem sound : Sound Tryz.prog 166 fs := fn_sound env mixed Tryz.func166 H loops fun ⟨x0, ()⟩ hw hp => (run x0).trans (eq x0 hw hp)
theorem known : Seen Tryz.prog 166 fs := ⟨sound, _, Tryz.func166, by kernel_rfl, by kernel_rfl⟩
end laws_toHard
namespace laws_toBoolS
noncomputable def fs : FS := ⟨[(.val (.sl 4 .bool) .f)], [((.sl 4 .bool), .o)], fun x => laws_toBoolS.pre x.1, fun x => ((), ((laws_toBoolS x.1), ()))⟩
noncomputable def E : Env := ⟨theta, [], []⟩
noncomputable def sh3 : ShSt := ⟨[(.one (.dat (.sl 4 .bool))), uu, uu, (.one (.arr 20000000)), ui, uu, uu, uu, uu, uu, uu, uu, uu, uu, uu, uu, uu, uu, uu, uu, uu, uu], [(20000000, (.arr 4 .bool))]⟩
noncomputable def outs3 : List OutC := [⟨(.exit 0), ⟨0, [3], []⟩, ⟨[uu, uu, uu, (.one (.arr 20000000)), uu, uu, uu, uu, uu, uu, uu, uu, uu, uu, uu, uu, uu, uu, uu, uu, uu, uu], [(20000000, (.arr 4 .bool))]⟩⟩]
noncomputable def L3 : LC := ⟨3, ⟨3, [0, 3, 4], []⟩, sh3, outs3, pre3, fn3⟩
noncomputable def H : List LC := [L3]
noncomputable def code (i : Nat) : Code := (loopsOf (bodyOf Tryz.f167)).getD i .skip
theorem step3 (x1 : (List Bool)) (x2 : Int) (x3 : (List Bool)) : L3.step E H (code 0) (x1, (x2, (x3, ()))) = raw3 x1 x2 x3 := by kernel_rfl
theorem lok3 : LoopOk E H (code 0) L3 := ⟨mu3, fun ⟨x1, x2, x3, ()⟩ hp => rounds_ok (step3 x1 x2 x3) (ok3 x1 x2 x3 hp)⟩
theorem run (x0 : (List Bool)) : runFn E H Tryz.f167 fs.ps fs.rs (x0, ()) = raw x0 := by kernel_rfl
theorem env : EnvOk Tryz.prog E := env_nil tys
theorem loops : ∀ c, Tryz.f167.body = some c → LoopsOk E H c := loops_of (by kernel_rfl) (by kernel_rfl) fun i l h => match i, h with
  | 0, h => Option.some.inj h ▸ lok3
  | n + 1, h => by cases h
theorem sound : Sound Tryz.prog 167 fs := fn_sound env mixed Tryz.func167 H loops fun ⟨x0, ()⟩ hw hp => (run x0).trans (eq x0 hw hp)
theorem known : Seen Tryz.prog 167 fs := ⟨sound, _, Tryz.func167, by kernel_rfl, by kernel_rfl⟩
end laws_toBoolS
namespace laws_toByteS
noncomputable def fs : FS := ⟨[(.val (.sl 5 (.int .u8)) .f)], [((.sl 5 (.int .u8)), .o)], fun x => laws_toByteS.pre x.1, fun x => ((), ((laws_toByteS x.1), ()))⟩
noncomputable def E : Env := ⟨theta, [], []⟩
noncomputable def sh3 : ShSt := ⟨[(.one (.dat (.sl 5 (.int .u8)))), uu, uu, (.one (.arr 20000000)), ui, uu, uu, uu, uu, uu, uu, uu, uu, uu, uu, uu, uu, uu, uu, uu, uu, uu], [(20000000, (.arr 5 (.int .u8)))]⟩
noncomputable def outs3 : List OutC := [⟨(.exit 0), ⟨0, [3], []⟩, ⟨[uu, uu, uu, (.one (.arr 20000000)), uu, uu, uu, uu, uu, uu, uu, uu, uu, uu, uu, uu, uu, uu, uu, uu, uu, uu], [(20000000, (.arr 5 (.int .u8)))]⟩⟩]
noncomputable def L3 : LC := ⟨3, ⟨3, [0, 3, 4], []⟩, sh3, outs3, pre3, fn3⟩
noncomputable def H : List LC := [L3]
noncomputable def code (i : Nat) : Code := (loopsOf (bodyOf Tryz.f68)).getD i .skip
theorem step3 (x1 : (List Int)) (x2 : Int) (x3 : (List Int)) : L3.step E H (code 0) (x1, (x2, (x3, ()))) = raw3 x1 x2 x3 := by kernel_rfl
theorem lok3 : LoopOk E H (code 0) L3 := ⟨mu3, fun ⟨x1, x2, x3, ()⟩ hp => rounds_ok (step3 x1 x2 x3) (ok3 x1 x2 x3 hp)⟩
theorem run (x0 : (List Int)) : runFn E H Tryz.f68 fs.ps fs.rs (x0, ()) = raw x0 := by kernel_rfl
theorem env : EnvOk Tryz.prog E := env_nil tys
theorem loops : ∀ c, Tryz.f68.body = some c → LoopsOk E H c := loops_of (by kernel_rfl) (by kernel_rfl) fun i l h => match i, h with
  | 0, h => Option.some.inj h ▸ lok3
  | n + 1, h => by cases h
theorem sound : Sound Tryz.prog 68 fs := fn_sound env mixed Tryz.func68 H loops fun ⟨x0, ()⟩ hw hp => (run x0).trans (eq x0 hw hp)
theorem known : Seen Tryz.prog 68 fs := ⟨sound, _, Tryz.func68, by kernel_rfl, by kernel_rfl⟩
end laws_toByteS
namespace laws_toDisk
noncomputable def fs : FS := ⟨[(.val (.pair (.sl 5 (.int .u8)) (.pair (.int .i64) .unit)) .f)], [((.pair (.sl 5 (.int .u8)) (.pair (.int .i64) .unit)), .o)], fun x => laws_toDisk.pre x.1, fun x => ((), ((laws_toDisk x.1), ()))⟩
noncomputable def E : Env := ⟨theta, [(68, laws_toByteS.fs)], []⟩
noncomputable def H : List LC := []
noncomputable def code (i : Nat) : Code := (loopsOf (bodyOf Tryz.f170)).getD i .skip
theorem run (x0 : Disk) : runFn E H Tryz.f170 fs.ps fs.rs (x0, ()) = raw x0 := by kernel_rfl
theorem env : EnvOk Tryz.prog E := env_cons laws_toByteS.known (env_nil tys)
theorem loops : ∀ c, Tryz.f170.body = some c → LoopsOk E H c := loops_none (by kernel_rfl)
theorem sound : Sound Tryz.prog 170 fs := fn_sound env mixed Tryz.func170 H loops fun ⟨x0, ()⟩ hw hp => (run x0).trans (eq x0 hw hp)
theorem known : Seen Tryz.prog 170 fs := ⟨sound, _, Tryz.func170, by kernel_rfl, by kernel_rfl⟩
end laws_toDisk
namespace laws_toRpc
noncomputable def fs : FS := ⟨[(.val tyS110 .f)], [(tyS14, .o)], fun x => laws_toRpc.pre x.1, fun x => ((), ((laws_toRpc x.1), ()))⟩
noncomputable def E : Env := ⟨theta, [(172, laws_toEntryS.fs)], []⟩
noncomputable def H : List LC := []
noncomputable def code (i : Nat) : Code := (loopsOf (bodyOf Tryz.f53)).getD i .skip
theorem run (x0 : (Int × (Int × (Int × (Int × (Int × (Int × (Int × ((List Entry) × (Bool × ((List UInt8) × Unit))))))))))) : runFn E H Tryz.f53 fs.ps fs.rs (x0, ()) = raw x0 := by kernel_rfl
theorem env : EnvOk Tryz.prog E := env_cons laws_toEntryS.known (env_nil tys)
theorem loops : ∀ c, Tryz.f53.body = some c → LoopsOk E H c := loops_none (by kernel_rfl)
theorem sound : Sound Tryz.prog 53 fs := fn_sound env mixed Tryz.func53 H loops fun ⟨x0, ()⟩ hw hp => (run x0).trans (eq x0 hw hp)
theorem known : Seen Tryz.prog 53 fs := ⟨sound, _, Tryz.func53, by kernel_rfl, by kernel_rfl⟩
end laws_toRpc
namespace laws_toRpcS
noncomputable def fs : FS := ⟨[(.val (.sl 107 tyS110) .f)], [((.sl 113 tyS14), .o)], fun x => laws_toRpcS.pre x.1, fun x => ((), ((laws_toRpcS x.1), ()))⟩
noncomputable def E : Env := ⟨theta, [(53, laws_toRpc.fs)], []⟩
noncomputable def sh3 : ShSt := ⟨[(.one (.dat (.sl 107 tyS110))), uu, uu, (.one (.arr 20000000)), ui, uu, uu, uu, uu, uu, uu, uu, uu, uu, uu, uu, uu, uu, uu, uu, uu, uu, uu], [(20000000, (.arr 113 tyS14))]⟩
noncomputable def outs3 : List OutC := [⟨(.exit 0), ⟨0, [3], []⟩, ⟨[uu, uu, uu, (.one (.arr 20000000)), uu, uu, uu, uu, uu, uu, uu, uu, uu, uu, uu, uu, uu, uu, uu, uu, uu, uu, uu], [(20000000, (.arr 113 tyS14))]⟩⟩]
noncomputable def L3 : LC := ⟨3, ⟨3, [0, 3, 4], []⟩, sh3, outs3, pre3, fn3⟩
noncomputable def H : List LC := [L3]
noncomputable def code (i : Nat) : Code := (loopsOf (bodyOf Tryz.f171)).getD i .skip
theorem step3 (x1 : (List (Int × (Int × (Int × (Int × (Int × (Int × (Int × ((List Entry) × (Bool × ((List UInt8) × Unit)))))))))))) (x2 : Int) (x3 : (List (Int × (Int × (Int × (Int × (Int × (Int × (Int × ((List Entry) × (Bool × ((List UInt8) × Unit)))))))))))) : L3.step E H (code 0) (x1, (x2, (x3, ()))) = raw3 x1 x2 x3 := by kernel_rfl
theorem lok3 : LoopOk E H (code 0) L3 := ⟨mu3, fun ⟨x1, x2, x3, ()⟩ hp => rounds_ok (step3 x1 x2 x3) (ok3 x1 x2 x3 hp)⟩
theorem run (x0 : (List (Int × (Int × (Int × (Int × (Int × (Int × (Int × ((List Entry) × (Bool × ((List UInt8) × Unit)))))))))))) : runFn E H Tryz.f171 fs.ps fs.rs (x0, ()) = raw x0 := by kernel_rfl
theorem env : EnvOk Tryz.prog E := env_cons laws_toRpc.known (env_nil tys)
theorem loops : ∀ c, Tryz.f171.body = some c → LoopsOk E H c := loops_of (by kernel_rfl) (by kernel_rfl) fun i l h => match i, h with
  | 0, h => Option.some.inj h ▸ lok3
  | n + 1, h => by cases h
theorem sound : Sound Tryz.prog 171 fs := fn_sound env mixed Tryz.func171 H loops fun ⟨x0, ()⟩ hw hp => (run x0).trans (eq x0 hw hp)
theorem known : Seen Tryz.prog 171 fs := ⟨sound, _, Tryz.func171, by kernel_rfl, by kernel_rfl⟩
end laws_toRpcS
namespace laws_toPeer
noncomputable def fs : FS := ⟨[(.val tyS112 .f)], [(tyS17, .o)], fun x => laws_toPeer.pre x.1, fun x => ((), ((laws_toPeer x.1), ()))⟩
noncomputable def E : Env := ⟨theta, [(168, laws_toIntS.fs), (169, laws_toKeep.fs), (166, laws_toHard.fs), (167, laws_toBoolS.fs), (170, laws_toDisk.fs), (171, laws_toRpcS.fs)], []⟩
noncomputable def H : List LC := []
noncomputable def code (i : Nat) : Code := (loopsOf (bodyOf Tryz.f52)).getD i .skip
theorem run (x0 : (Int × ((Int × (Int × (Log × (((List Row) × ((List Maker) × ((List Group) × (Int × ((List Int) × ((List Answer) × Unit)))))) × Unit)))) × (Int × ((List Bool) × ((List Int) × ((List Int) × (Int × (((List Row) × ((List Maker) × ((List Group) × (Int × ((List Int) × ((List Answer) × Unit)))))) × (Disk × ((List (Int × (Int × (Int × (Int × (Int × (Int × (Int × ((List Entry) × (Bool × ((List UInt8) × Unit))))))))))) × Unit))))))))))) : runFn E H Tryz.f52 fs.ps fs.rs (x0, ()) = raw x0 := by kernel_rfl
theorem env : EnvOk Tryz.prog E := env_cons laws_toIntS.known (env_cons laws_toKeep.known (env_cons laws_toHard.known (env_cons laws_toBoolS.known (env_cons laws_toDisk.known (env_cons laws_toRpcS.known (env_nil tys))))))
theorem loops : ∀ c, Tryz.f52.body = some c → LoopsOk E H c := loops_none (by kernel_rfl)
theorem sound : Sound Tryz.prog 52 fs := fn_sound env mixed Tryz.func52 H loops fun ⟨x0, ()⟩ hw hp => (run x0).trans (eq x0 hw hp)
theorem known : Seen Tryz.prog 52 fs := ⟨sound, _, Tryz.func52, by kernel_rfl, by kernel_rfl⟩
end laws_toPeer
namespace impl_copyLog
noncomputable def fs : FS := ⟨[(.val tyS114 .f)], [(tyS114, .o)], fun x => impl_copyLog.pre x.1, fun x => ((), ((impl_copyLog x.1), ()))⟩
noncomputable def E : Env := ⟨theta, [], []⟩
noncomputable def H : List LC := []
noncomputable def code (i : Nat) : Code := (loopsOf (bodyOf Tryz.f284)).getD i .skip
theorem run (x0 : Log) : runFn E H Tryz.f284 fs.ps fs.rs (x0, ()) = raw x0 := by kernel_rfl
theorem env : EnvOk Tryz.prog E := env_nil tys
theorem loops : ∀ c, Tryz.f284.body = some c → LoopsOk E H c := loops_none (by kernel_rfl)
theorem sound : Sound Tryz.prog 284 fs := fn_sound env mixed Tryz.func284 H loops fun ⟨x0, ()⟩ hw hp => (run x0).trans (eq x0 hw hp)
theorem known : Seen Tryz.prog 284 fs := ⟨sound, _, Tryz.func284, by kernel_rfl, by kernel_rfl⟩
end impl_copyLog
namespace impl_copyRow
noncomputable def fs : FS := ⟨[(.val tyS111 .f)], [(tyS111, .o)], fun x => impl_copyRow.pre x.1, fun x => ((), ((impl_copyRow x.1), ()))⟩
noncomputable def E : Env := ⟨theta, [], []⟩
noncomputable def H : List LC := []
noncomputable def code (i : Nat) : Code := (loopsOf (bodyOf Tryz.f215)).getD i .skip
theorem run (x0 : Row) : runFn E H Tryz.f215 fs.ps fs.rs (x0, ()) = raw x0 := by kernel_rfl
theorem env : EnvOk Tryz.prog E := env_nil tys
theorem loops : ∀ c, Tryz.f215.body = some c → LoopsOk E H c := loops_none (by kernel_rfl)
theorem sound : Sound Tryz.prog 215 fs := fn_sound env mixed Tryz.func215 H loops fun ⟨x0, ()⟩ hw hp => (run x0).trans (eq x0 hw hp)
theorem known : Seen Tryz.prog 215 fs := ⟨sound, _, Tryz.func215, by kernel_rfl, by kernel_rfl⟩
end impl_copyRow
namespace impl_copyInts
noncomputable def fs : FS := ⟨[(.val (.sl 3 (.int .i64)) .f)], [((.sl 3 (.int .i64)), .o)], fun x => impl_copyInts.pre x.1, fun x => ((), ((impl_copyInts x.1), ()))⟩
noncomputable def E : Env := ⟨theta, [], []⟩
noncomputable def H : List LC := []
noncomputable def code (i : Nat) : Code := (loopsOf (bodyOf Tryz.f218)).getD i .skip
theorem run (x0 : (List Int)) : runFn E H Tryz.f218 fs.ps fs.rs (x0, ()) = raw x0 := by kernel_rfl
theorem env : EnvOk Tryz.prog E := env_nil tys
theorem loops : ∀ c, Tryz.f218.body = some c → LoopsOk E H c := loops_none (by kernel_rfl)
theorem sound : Sound Tryz.prog 218 fs := fn_sound env mixed Tryz.func218 H loops fun ⟨x0, ()⟩ hw hp => (run x0).trans (eq x0 hw hp)
theorem known : Seen Tryz.prog 218 fs := ⟨sound, _, Tryz.func218, by kernel_rfl, by kernel_rfl⟩
end impl_copyInts
namespace impl_copyGroup
noncomputable def fs : FS := ⟨[(.val tyS18 .f)], [(tyS18, .o)], fun x => impl_copyGroup.pre x.1, fun x => ((), ((impl_copyGroup x.1), ()))⟩
noncomputable def E : Env := ⟨theta, [(218, impl_copyInts.fs)], []⟩
noncomputable def H : List LC := []
noncomputable def code (i : Nat) : Code := (loopsOf (bodyOf Tryz.f216)).getD i .skip
theorem run (x0 : Group) : runFn E H Tryz.f216 fs.ps fs.rs (x0, ()) = raw x0 := by kernel_rfl
theorem env : EnvOk Tryz.prog E := env_cons impl_copyInts.known (env_nil tys)
theorem loops : ∀ c, Tryz.f216.body = some c → LoopsOk E H c := loops_none (by kernel_rfl)
theorem sound : Sound Tryz.prog 216 fs := fn_sound env mixed Tryz.func216 H loops fun ⟨x0, ()⟩ hw hp => (run x0).trans (eq x0 hw hp)
theorem known : Seen Tryz.prog 216 fs := ⟨sound, _, Tryz.func216, by kernel_rfl, by kernel_rfl⟩
end impl_copyGroup
namespace impl_copyMaker
noncomputable def fs : FS := ⟨[(.val tyS15 .f)], [(tyS15, .o)], fun x => impl_copyMaker.pre x.1, fun x => ((), ((impl_copyMaker x.1), ()))⟩
noncomputable def E : Env := ⟨theta, [], []⟩
noncomputable def H : List LC := []
noncomputable def code (i : Nat) : Code := (loopsOf (bodyOf Tryz.f304)).getD i .skip
theorem run (x0 : Maker) : runFn E H Tryz.f304 fs.ps fs.rs (x0, ()) = raw x0 := by kernel_rfl
theorem env : EnvOk Tryz.prog E := env_nil tys
theorem loops : ∀ c, Tryz.f304.body = some c → LoopsOk E H c := loops_none (by kernel_rfl)
theorem sound : Sound Tryz.prog 304 fs := fn_sound env mixed Tryz.func304 H loops fun ⟨x0, ()⟩ hw hp => (run x0).trans (eq x0 hw hp)
theorem known : Seen Tryz.prog 304 fs := ⟨sound, _, Tryz.func304, by kernel_rfl, by kernel_rfl⟩
end impl_copyMaker
namespace impl_copyMakers
noncomputable def fs : FS := ⟨[(.val (.sl 156 tyS15) .f)], [((.sl 156 tyS15), .o)], fun x => impl_copyMakers.pre x.1, fun x => ((), ((impl_copyMakers x.1), ()))⟩
noncomputable def E : Env := ⟨theta, [(304, impl_copyMaker.fs)], []⟩
noncomputable def sh3 : ShSt := ⟨[uu, uu, uu, (.one (.arr 20000000)), uu, uu, (.one (.dat (.sl 156 tyS15))), ui, ui, uu, uu, uu, uu, uu, uu, uu, uu, uu, uu], [(20000000, (.arr 156 tyS15))]⟩
noncomputable def outs3 : List OutC := [⟨(.exit 0), ⟨0, [3], [(3, (156, tyS15))]⟩, ⟨[uu, uu, uu, (.one (.arr 20000000)), uu, uu, uu, uu, uu, uu, uu, uu, uu, uu, uu, uu, uu, uu, uu], [(20000000, (.arr 156 tyS15))]⟩⟩]
noncomputable def L3 : LC := ⟨3, ⟨3, [3, 6, 7, 8], [(3, (156, tyS15))]⟩, sh3, outs3, pre3, fn3⟩
noncomputable def H : List LC := [L3]
noncomputable def code (i : Nat) : Code := (loopsOf (bodyOf Tryz.f217)).getD i .skip
theorem step3 (x1 : (List Maker)) (x2 : Int) (x3 : Int) (x4 : (List Maker)) : L3.step E H (code 0) (x1, (x2, (x3, (x4, ())))) = raw3 x1 x2 x3 x4 := by kernel_rfl
theorem lok3 : LoopOk E H (code 0) L3 := ⟨mu3, fun ⟨x1, x2, x3, x4, ()⟩ hp => rounds_ok (step3 x1 x2 x3 x4) (ok3 x1 x2 x3 x4 hp)⟩
theorem run (x0 : (List Maker)) : runFn E H Tryz.f217 fs.ps fs.rs (x0, ()) = raw x0 := by kernel_rfl
theorem env : EnvOk Tryz.prog E := env_cons impl_copyMaker.known (env_nil tys)
theorem loops : ∀ c, Tryz.f217.body = some c → LoopsOk E H c := loops_of (by kernel_rfl) (by kernel_rfl) fun i l h => match i, h with
  | 0, h => Option.some.inj h ▸ lok3
  | n + 1, h => by cases h
theorem sound : Sound Tryz.prog 217 fs := fn_sound env mixed Tryz.func217 H loops fun ⟨x0, ()⟩ hw hp => (run x0).trans (eq x0 hw hp)
theorem known : Seen Tryz.prog 217 fs := ⟨sound, _, Tryz.func217, by kernel_rfl, by kernel_rfl⟩
end impl_copyMakers
namespace impl_copyKeep
noncomputable def fs : FS := ⟨[(.val tyS11 .f)], [(tyS11, .o)], fun x => impl_copyKeep.pre x.1, fun x => ((), ((impl_copyKeep x.1), ()))⟩
noncomputable def E : Env := ⟨theta, [(215, impl_copyRow.fs), (218, impl_copyInts.fs), (216, impl_copyGroup.fs), (217, impl_copyMakers.fs)], []⟩
noncomputable def sh4 : ShSt := ⟨[uu, (.one (.bptr 0 [] tyS11)), (.one (.bptr 32 [] tyS11)), uu, (.one (.dat (.sl 159 tyS18))), uu, uu, uu, uu, uu, uu, uu, uu, uu, uu, (.one (.dat (.sl 42 tyS111))), ui, ui, uu, uu, uu, uu, uu, uu, uu, uu, uu, uu, uu, uu, uu, uu, uu, uu, uu, uu, uu, uu, uu, uu, uu, uu, uu, uu, uu, uu, uu, uu, uu, uu, uu, uu, uu, uu, uu, uu], [(0, (.box tyS11 (.pair (.arr 20000000) (.pair (.dat (.sl 156 tyS15)) (.pair (.arr 20000001) (.dat (.pair (.int .i64) (.pair (.sl 3 (.int .i64)) (.pair (.sl 48 tyS19) .unit))))))))), (20000000, (.arr 42 tyS111)), (20000001, (.arr 159 tyS18)), (32, (.box tyS11 (.pair (.arr 20000002) (.pair (.arr 20000003) (.pair (.arr 20000004) (.pair (.dat (.int .i64)) (.pair (.arr 20000005) (.pair (.arr 20000006) (.dat .unit))))))))), (20000002, (.arr 42 tyS111)), (20000003, (.arr 156 tyS15)), (20000004, (.arr 159 tyS18)), (20000005, (.arr 3 (.int .i64))), (20000006, (.arr 48 tyS19))]⟩
noncomputable def outs4 : List OutC := [⟨(.exit 0), ⟨0, [1, 2, 4], []⟩, ⟨[uu, (.one (.bptr 0 [] tyS11)), (.one (.bptr 32 [] tyS11)), uu, (.one (.dat (.sl 159 tyS18))), uu, uu, uu, uu, uu, uu, uu, uu, uu, uu, uu, uu, uu, uu, uu, uu, uu, uu, uu, uu, uu, uu, uu, uu, uu, uu, uu, uu, uu, uu, uu, uu, uu, uu, uu, uu, uu, uu, uu, uu, uu, uu, uu, uu, uu, uu, uu, uu, uu, uu, uu], [(0, (.box tyS11 (.pair (.arr 20000000) (.pair (.dat (.sl 156 tyS15)) (.pair (.arr 20000001) (.dat (.pair (.int .i64) (.pair (.sl 3 (.int .i64)) (.pair (.sl 48 tyS19) .unit))))))))), (20000000, (.arr 42 tyS111)), (20000001, (.arr 159 tyS18)), (32, (.box tyS11 (.pair (.arr 20000002) (.pair (.arr 20000003) (.pair (.arr 20000004) (.pair (.dat (.int .i64)) (.pair (.arr 20000005) (.pair (.arr 20000006) (.dat .unit))))))))), (20000002, (.arr 42 tyS111)), (20000003, (.arr 156 tyS15)), (20000004, (.arr 159 tyS18)), (20000005, (.arr 3 (.int .i64))), (20000006, (.arr 48 tyS19))]⟩⟩]
noncomputable def L4 : LC := ⟨4, ⟨4, [1, 2, 4, 15, 16, 17], []⟩, sh4, outs4, pre4, fn4⟩
noncomputable def sh9 : ShSt := ⟨[uu, (.one (.bptr 0 [] tyS11)), (.one (.bptr 32 [] tyS11)), uu, uu, uu, uu, uu, uu, uu, uu, uu, uu, uu, uu, uu, uu, uu, uu, uu, uu, uu, uu, uu, uu, uu, uu, uu, uu, (.one (.dat (.sl 159 tyS18))), ui, ui, uu, uu, uu, uu, uu, uu, uu, uu, uu, uu, uu, uu, uu, uu, uu, uu, uu, uu, uu, uu, uu, uu, uu, uu], [(0, (.box tyS11 (.pair (.arr 20000000) (.pair (.dat (.sl 156 tyS15)) (.pair (.arr 20000001) (.dat (.pair (.int .i64) (.pair (.sl 3 (.int .i64)) (.pair (.sl 48 tyS19) .unit))))))))), (20000000, (.arr 42 tyS111)), (20000001, (.arr 159 tyS18)), (32, (.box tyS11 (.pair (.arr 20000002) (.pair (.arr 20000003) (.pair (.arr 20000004) (.pair (.dat (.int .i64)) (.pair (.arr 20000005) (.pair (.arr 20000006) (.dat .unit))))))))), (20000002, (.arr 42 tyS111)), (20000003, (.arr 156 tyS15)), (20000004, (.arr 159 tyS18)), (20000005, (.arr 3 (.int .i64))), (20000006, (.arr 48 tyS19))]⟩
noncomputable def outs9 : List OutC := [⟨(.exit 2), ⟨0, [1, 2], []⟩, ⟨[uu, (.one (.bptr 0 [] tyS11)), (.one (.bptr 32 [] tyS11)), uu, uu, uu, uu, uu, uu, uu, uu, uu, uu, uu, uu, uu, uu, uu, uu, uu, uu, uu, uu, uu, uu, uu, uu, uu, uu, uu, uu, uu, uu, uu, uu, uu, uu, uu, uu, uu, uu, uu, uu, uu, uu, uu, uu, uu, uu, uu, uu, uu, uu, uu, uu, uu], [(0, (.box tyS11 (.pair (.arr 20000000) (.pair (.dat (.sl 156 tyS15)) (.pair (.arr 20000001) (.dat (.pair (.int .i64) (.pair (.sl 3 (.int .i64)) (.pair (.sl 48 tyS19) .unit))))))))), (20000000, (.arr 42 tyS111)), (20000001, (.arr 159 tyS18)), (32, (.box tyS11 (.pair (.arr 20000002) (.pair (.arr 20000003) (.pair (.arr 20000004) (.pair (.dat (.int .i64)) (.pair (.arr 20000005) (.pair (.arr 20000006) (.dat .unit))))))))), (20000002, (.arr 42 tyS111)), (20000003, (.arr 156 tyS15)), (20000004, (.arr 159 tyS18)), (20000005, (.arr 3 (.int .i64))), (20000006, (.arr 48 tyS19))]⟩⟩]
noncomputable def L9 : LC := ⟨9, ⟨9, [1, 2, 29, 30, 31], []⟩, sh9, outs9, pre9, fn9⟩
noncomputable def H : List LC := [L4, L9]
noncomputable def code (i : Nat) : Code := (loopsOf (bodyOf Tryz.f102)).getD i .skip
theorem step4 (x1 : (List Group)) (x2 : (List Row)) (x3 : Int) (x4 : Int) (x5 : (List Maker)) (x6 : (Int × ((List Int) × ((List Answer) × Unit)))) (x7 : (List Row)) (x8 : (List Group)) (x9 : Int) (x10 : Unit) (x11 : (List Row)) (x12 : (List Maker)) (x13 : (List Group)) (x14 : (List Int)) (x15 : (List Answer)) : L4.step E H (code 0) (x1, (x2, (x3, (x4, (x5, (x6, (x7, (x8, (x9, (x10, (x11, (x12, (x13, (x14, (x15, ()))))))))))))))) = raw4 x1 x2 x3 x4 x5 x6 x7 x8 x9 x10 x11 x12 x13 x14 x15 := by kernel_rfl
theorem lok4 : LoopOk E H (code 0) L4 := ⟨mu4, fun ⟨x1, x2, x3, x4, x5, x6, x7, x8, x9, x10, x11, x12, x13, x14, x15, ()⟩ hp => rounds_ok (step4 x1 x2 x3 x4 x5 x6 x7 x8 x9 x10 x11 x12 x13 x14 x15) (ok4 x1 x2 x3 x4 x5 x6 x7 x8 x9 x10 x11 x12 x13 x14 x15 hp)⟩
theorem step9 (x1 : (List Group)) (x2 : Int) (x3 : Int) (x4 : (List Maker)) (x5 : (Int × ((List Int) × ((List Answer) × Unit)))) (x6 : (List Row)) (x7 : (List Group)) (x8 : Int) (x9 : Unit) (x10 : (List Row)) (x11 : (List Maker)) (x12 : (List Group)) (x13 : (List Int)) (x14 : (List Answer)) : L9.step E H (code 1) (x1, (x2, (x3, (x4, (x5, (x6, (x7, (x8, (x9, (x10, (x11, (x12, (x13, (x14, ())))))))))))))) = raw9 x1 x2 x3 x4 x5 x6 x7 x8 x9 x10 x11 x12 x13 x14 := by kernel_rfl
theorem lok9 : LoopOk E H (code 1) L9 := ⟨mu9, fun ⟨x1, x2, x3, x4, x5, x6, x7, x8, x9, x10, x11, x12, x13, x14, ()⟩ hp => rounds_ok (step9 x1 x2 x3 x4 x5 x6 x7 x8 x9 x10 x11 x12 x13 x14) (ok9 x1 x2 x3 x4 x5 x6 x7 x8 x9 x10 x11 x12 x13 x14 hp)⟩
theorem run (x0 : ((List Row) × ((List Maker) × ((List Group) × (Int × ((List Int) × ((List Answer) × Unit))))))) : runFn E H Tryz.f102 fs.ps fs.rs (x0, ()) = raw x0 := by kernel_rfl
theorem env : EnvOk Tryz.prog E := env_cons impl_copyRow.known (env_cons impl_copyInts.known (env_cons impl_copyGroup.known (env_cons impl_copyMakers.known (env_nil tys))))
theorem loops : ∀ c, Tryz.f102.body = some c → LoopsOk E H c := loops_of (by kernel_rfl) (by kernel_rfl) fun i l h => match i, h with
  | 0, h => Option.some.inj h ▸ lok4
  | 1, h => Option.some.inj h ▸ lok9
  | n + 2, h => by cases h
theorem sound : Sound Tryz.prog 102 fs := fn_sound env mixed Tryz.func102 H loops fun ⟨x0, ()⟩ hw hp => (run x0).trans (eq x0 hw hp)
theorem known : Seen Tryz.prog 102 fs := ⟨sound, _, Tryz.func102, by kernel_rfl, by kernel_rfl⟩
end impl_copyKeep
namespace impl_copyHard
noncomputable def fs : FS := ⟨[(.val (.pair (.int .i64) (.pair (.int .i64) (.pair tyS114 (.pair tyS11 .unit)))) .f)], [((.pair (.int .i64) (.pair (.int .i64) (.pair tyS114 (.pair tyS11 .unit)))), .o)], fun x => impl_copyHard.pre x.1, fun x => ((), ((impl_copyHard x.1), ()))⟩
noncomputable def E : Env := ⟨theta, [(284, impl_copyLog.fs), (102, impl_copyKeep.fs)], []⟩
noncomputable def H : List LC := []
noncomputable def code (i : Nat) : Code := (loopsOf (bodyOf Tryz.f203)).getD i .skip
theorem run (x0 : (Int × (Int × (Log × (((List Row) × ((List Maker) × ((List Group) × (Int × ((List Int) × ((List Answer) × Unit)))))) × Unit))))) : runFn E H Tryz.f203 fs.ps fs.rs (x0, ()) = raw x0 := by kernel_rfl
theorem env : EnvOk Tryz.prog E := env_cons impl_copyLog.known (env_cons impl_copyKeep.known (env_nil tys))
theorem loops : ∀ c, Tryz.f203.body = some c → LoopsOk E H c := loops_none (by kernel_rfl)
theorem sound : Sound Tryz.prog 203 fs := fn_sound env mixed Tryz.func203 H loops fun ⟨x0, ()⟩ hw hp => (run x0).trans (eq x0 hw hp)
theorem known : Seen Tryz.prog 203 fs := ⟨sound, _, Tryz.func203, by kernel_rfl, by kernel_rfl⟩
end impl_copyHard
namespace impl_copyDisk
noncomputable def fs : FS := ⟨[(.val (.pair (.sl 5 (.int .u8)) (.pair (.int .i64) .unit)) .f)], [((.pair (.sl 5 (.int .u8)) (.pair (.int .i64) .unit)), .o)], fun x => impl_copyDisk.pre x.1, fun x => ((), ((impl_copyDisk x.1), ()))⟩
noncomputable def E : Env := ⟨theta, [], []⟩
noncomputable def H : List LC := []
noncomputable def code (i : Nat) : Code := (loopsOf (bodyOf Tryz.f267)).getD i .skip
theorem run (x0 : Disk) : runFn E H Tryz.f267 fs.ps fs.rs (x0, ()) = raw x0 := by kernel_rfl
theorem env : EnvOk Tryz.prog E := env_nil tys
theorem loops : ∀ c, Tryz.f267.body = some c → LoopsOk E H c := loops_none (by kernel_rfl)
theorem sound : Sound Tryz.prog 267 fs := fn_sound env mixed Tryz.func267 H loops fun ⟨x0, ()⟩ hw hp => (run x0).trans (eq x0 hw hp)
theorem known : Seen Tryz.prog 267 fs := ⟨sound, _, Tryz.func267, by kernel_rfl, by kernel_rfl⟩
end impl_copyDisk
namespace impl_copyRpcs
noncomputable def fs : FS := ⟨[(.val (.sl 113 tyS14) .f)], [((.sl 113 tyS14), .o)], fun x => impl_copyRpcs.pre x.1, fun x => ((), ((impl_copyRpcs x.1), ()))⟩
noncomputable def E : Env := ⟨theta, [], []⟩
noncomputable def sh3 : ShSt := ⟨[uu, uu, uu, (.one (.arr 20000000)), uu, uu, (.one (.dat (.sl 113 tyS14))), ui, ui, uu, uu, uu, uu, uu, uu, uu, uu, uu, uu, uu, uu, uu], [(20000000, (.arr 113 tyS14))]⟩
noncomputable def outs3 : List OutC := [⟨(.exit 0), ⟨0, [3], [(3, (113, tyS14))]⟩, ⟨[uu, uu, uu, (.one (.arr 20000000)), uu, uu, uu, uu, uu, uu, uu, uu, uu, uu, uu, uu, uu, uu, uu, uu, uu, uu], [(20000000, (.arr 113 tyS14))]⟩⟩]
noncomputable def L3 : LC := ⟨3, ⟨3, [3, 6, 7, 8], [(3, (113, tyS14))]⟩, sh3, outs3, pre3, fn3⟩
noncomputable def H : List LC := [L3]
noncomputable def code (i : Nat) : Code := (loopsOf (bodyOf Tryz.f268)).getD i .skip
theorem step3 (x1 : (List (Int × (Int × (Int × (Int × (Int × (Int × (Int × ((List Entry) × (Bool × ((List UInt8) × Unit)))))))))))) (x2 : Int) (x3 : Int) (x4 : (List (Int × (Int × (Int × (Int × (Int × (Int × (Int × ((List Entry) × (Bool × ((List UInt8) × Unit)))))))))))) : L3.step E H (code 0) (x1, (x2, (x3, (x4, ())))) = raw3 x1 x2 x3 x4 := by kernel_rfl
theorem lok3 : LoopOk E H (code 0) L3 := ⟨mu3, fun ⟨x1, x2, x3, x4, ()⟩ hp => rounds_ok (step3 x1 x2 x3 x4) (ok3 x1 x2 x3 x4 hp)⟩
theorem run (x0 : (List (Int × (Int × (Int × (Int × (Int × (Int × (Int × ((List Entry) × (Bool × ((List UInt8) × Unit)))))))))))) : runFn E H Tryz.f268 fs.ps fs.rs (x0, ()) = raw x0 := by kernel_rfl
theorem env : EnvOk Tryz.prog E := env_nil tys
theorem loops : ∀ c, Tryz.f268.body = some c → LoopsOk E H c := loops_of (by kernel_rfl) (by kernel_rfl) fun i l h => match i, h with
  | 0, h => Option.some.inj h ▸ lok3
  | n + 1, h => by cases h
theorem sound : Sound Tryz.prog 268 fs := fn_sound env mixed Tryz.func268 H loops fun ⟨x0, ()⟩ hw hp => (run x0).trans (eq x0 hw hp)
theorem known : Seen Tryz.prog 268 fs := ⟨sound, _, Tryz.func268, by kernel_rfl, by kernel_rfl⟩
end impl_copyRpcs
namespace impl_copyPeer
noncomputable def fs : FS := ⟨[(.val tyS17 .f)], [(tyS17, .o)], fun x => impl_copyPeer.pre x.1, fun x => ((), ((impl_copyPeer x.1), ()))⟩
noncomputable def E : Env := ⟨theta, [(218, impl_copyInts.fs), (102, impl_copyKeep.fs), (203, impl_copyHard.fs), (267, impl_copyDisk.fs), (268, impl_copyRpcs.fs)], []⟩
noncomputable def H : List LC := []
noncomputable def code (i : Nat) : Code := (loopsOf (bodyOf Tryz.f173)).getD i .skip
theorem run (x0 : (Int × ((Int × (Int × (Log × (((List Row) × ((List Maker) × ((List Group) × (Int × ((List Int) × ((List Answer) × Unit)))))) × Unit)))) × (Int × ((List Bool) × ((List Int) × ((List Int) × (Int × (((List Row) × ((List Maker) × ((List Group) × (Int × ((List Int) × ((List Answer) × Unit)))))) × (Disk × ((List (Int × (Int × (Int × (Int × (Int × (Int × (Int × ((List Entry) × (Bool × ((List UInt8) × Unit))))))))))) × Unit))))))))))) : runFn E H Tryz.f173 fs.ps fs.rs (x0, ()) = raw x0 := by kernel_rfl
theorem env : EnvOk Tryz.prog E := env_cons impl_copyInts.known (env_cons impl_copyKeep.known (env_cons impl_copyHard.known (env_cons impl_copyDisk.known (env_cons impl_copyRpcs.known (env_nil tys)))))
theorem loops : ∀ c, Tryz.f173.body = some c → LoopsOk E H c := loops_none (by kernel_rfl)
theorem sound : Sound Tryz.prog 173 fs := fn_sound env mixed Tryz.func173 H loops fun ⟨x0, ()⟩ hw hp => (run x0).trans (eq x0 hw hp)
theorem known : Seen Tryz.prog 173 fs := ⟨sound, _, Tryz.func173, by kernel_rfl, by kernel_rfl⟩
end impl_copyPeer
namespace Peer_tells
noncomputable def fs : FS := ⟨[(.ref tyS17 .o), (.val tyS14 .o)], [(.bool, .o)], fun x => Peer_tells.pre x.1 x.2.1, fun x => (((Peer_tells x.1 x.2.1).1, ()), ((Peer_tells x.1 x.2.1).2, ()))⟩
noncomputable def E : Env := ⟨theta, [], []⟩
noncomputable def H : List LC := []
noncomputable def code (i : Nat) : Code := (loopsOf (bodyOf Tryz.f174)).getD i .skip
theorem run (x0 : (Int × ((Int × (Int × (Log × (((List Row) × ((List Maker) × ((List Group) × (Int × ((List Int) × ((List Answer) × Unit)))))) × Unit)))) × (Int × ((List Bool) × ((List Int) × ((List Int) × (Int × (((List Row) × ((List Maker) × ((List Group) × (Int × ((List Int) × ((List Answer) × Unit)))))) × (Disk × ((List (Int × (Int × (Int × (Int × (Int × (Int × (Int × ((List Entry) × (Bool × ((List UInt8) × Unit))))))))))) × Unit))))))))))) (x1 : (Int × (Int × (Int × (Int × (Int × (Int × (Int × ((List Entry) × (Bool × ((List UInt8) × Unit))))))))))) : runFn E H Tryz.f174 fs.ps fs.rs (x0, (x1, ())) = raw x0 x1 := by kernel_rfl
theorem env : EnvOk Tryz.prog E := env_nil tys
theorem loops : ∀ c, Tryz.f174.body = some c → LoopsOk E H c := loops_none (by kernel_rfl)
theorem sound : Sound Tryz.prog 174 fs := fn_sound env mixed Tryz.func174 H loops fun ⟨x0, x1, ()⟩ hw hp => (run x0 x1).trans (eq x0 x1 hw hp)
theorem known : Seen Tryz.prog 174 fs := ⟨sound, _, Tryz.func174, by kernel_rfl, by kernel_rfl⟩
end Peer_tells
namespace impl_Tell
noncomputable def fs : FS := ⟨[(.val tyS17 .f), (.val tyS14 .f)], [(tyS17, .o), (.bool, .o)], fun x => impl_Tell.pre x.1 x.2.1, fun x => ((), ((impl_Tell x.1 x.2.1).1, ((impl_Tell x.1 x.2.1).2, ())))⟩
noncomputable def E : Env := ⟨theta, [(173, impl_copyPeer.fs), (174, Peer_tells.fs)], []⟩
noncomputable def H : List LC := []
noncomputable def code (i : Nat) : Code := (loopsOf (bodyOf Tryz.f54)).getD i .skip
theorem run (x0 : (Int × ((Int × (Int × (Log × (((List Row) × ((List Maker) × ((List Group) × (Int × ((List Int) × ((List Answer) × Unit)))))) × Unit)))) × (Int × ((List Bool) × ((List Int) × ((List Int) × (Int × (((List Row) × ((List Maker) × ((List Group) × (Int × ((List Int) × ((List Answer) × Unit)))))) × (Disk × ((List (Int × (Int × (Int × (Int × (Int × (Int × (Int × ((List Entry) × (Bool × ((List UInt8) × Unit))))))))))) × Unit))))))))))) (x1 : (Int × (Int × (Int × (Int × (Int × (Int × (Int × ((List Entry) × (Bool × ((List UInt8) × Unit))))))))))) : runFn E H Tryz.f54 fs.ps fs.rs (x0, (x1, ())) = raw x0 x1 := by kernel_rfl
theorem env : EnvOk Tryz.prog E := env_cons impl_copyPeer.known (env_cons Peer_tells.known (env_nil tys))
theorem loops : ∀ c, Tryz.f54.body = some c → LoopsOk E H c := loops_none (by kernel_rfl)
theorem sound : Sound Tryz.prog 54 fs := fn_sound env mixed Tryz.func54 H loops fun ⟨x0, x1, ()⟩ hw hp => (run x0 x1).trans (eq x0 x1 hw hp)
theorem known : Seen Tryz.prog 54 fs := ⟨sound, _, Tryz.func54, by kernel_rfl, by kernel_rfl⟩
end impl_Tell
namespace laws_eqLog
noncomputable def fs : FS := ⟨[(.val tyS114 .f), (.val tyS114 .f)], [(.bool, .o)], fun _ => true, fun x => ((), ((laws_eqLog x.1 x.2.1), ()))⟩
noncomputable def E : Env := ⟨theta, [(175, laws_eqEntryS.fs)], []⟩
noncomputable def H : List LC := []
noncomputable def code (i : Nat) : Code := (loopsOf (bodyOf Tryz.f191)).getD i .skip
theorem run (x0 : Log) (x1 : Log) : runFn E H Tryz.f191 fs.ps fs.rs (x0, (x1, ())) = raw x0 x1 := by kernel_rfl
theorem env : EnvOk Tryz.prog E := env_cons laws_eqEntryS.known (env_nil tys)
theorem loops : ∀ c, Tryz.f191.body = some c → LoopsOk E H c := loops_none (by kernel_rfl)
theorem sound : Sound Tryz.prog 191 fs := fn_sound env mixed Tryz.func191 H loops fun ⟨x0, x1, ()⟩ hw _ => (run x0 x1).trans (eq x0 x1 hw)
theorem known : Seen Tryz.prog 191 fs := ⟨sound, _, Tryz.func191, by kernel_rfl, by kernel_rfl⟩
end laws_eqLog
namespace laws_eqItem
noncomputable def fs : FS := ⟨[(.val tyS16 .f), (.val tyS16 .f)], [(.bool, .o)], fun _ => true, fun x => ((), ((laws_eqItem x.1 x.2.1), ()))⟩
noncomputable def E : Env := ⟨theta, [], []⟩
noncomputable def H : List LC := []
noncomputable def code (i : Nat) : Code := (loopsOf (bodyOf Tryz.f361)).getD i .skip
theorem run (x0 : Item) (x1 : Item) : runFn E H Tryz.f361 fs.ps fs.rs (x0, (x1, ())) = raw x0 x1 := by kernel_rfl
theorem env : EnvOk Tryz.prog E := env_nil tys
theorem loops : ∀ c, Tryz.f361.body = some c → LoopsOk E H c := loops_none (by kernel_rfl)
theorem sound : Sound Tryz.prog 361 fs := fn_sound env mixed Tryz.func361 H loops fun ⟨x0, x1, ()⟩ hw _ => (run x0 x1).trans (eq x0 x1 hw)
theorem known : Seen Tryz.prog 361 fs := ⟨sound, _, Tryz.func361, by kernel_rfl, by kernel_rfl⟩
end laws_eqItem
namespace laws_eqItemS
noncomputable def fs : FS := ⟨[(.val (.sl 44 tyS16) .f), (.val (.sl 44 tyS16) .f)], [(.bool, .o)], fun _ => true, fun x => ((), ((laws_eqItemS x.1 x.2.1), ()))⟩
noncomputable def E : Env := ⟨theta, [(361, laws_eqItem.fs)], []⟩
noncomputable def sh4 : ShSt := ⟨[(.one (.dat (.sl 44 tyS16))), (.one (.dat (.sl 44 tyS16))), uu, uu, uu, ui, uu, uu, uu, uu, uu, uu, uu, uu, uu, uu, uu, uu, uu, uu, uu, uu, uu, uu, uu, uu, uu], []⟩
noncomputable def outs4 : List OutC := [⟨.ret, ⟨0, [4], []⟩, ⟨[uu, uu, uu, uu, (.one (.dat .bool)), uu, uu, uu, uu, uu, uu, uu, uu, uu, uu, uu, uu, uu, uu, uu, uu, uu, uu, uu, uu, uu, uu], []⟩⟩, ⟨(.exit 0), ⟨0, [], []⟩, ⟨[uu, uu, uu, uu, uu, uu, uu, uu, uu, uu, uu, uu, uu, uu, uu, uu, uu, uu, uu, uu, uu, uu, uu, uu, uu, uu, uu], []⟩⟩]
noncomputable def L4 : LC := ⟨4, ⟨4, [0, 1, 5], []⟩, sh4, outs4, pre4, fn4⟩
noncomputable def H : List LC := [L4]
noncomputable def code (i : Nat) : Code := (loopsOf (bodyOf Tryz.f322)).getD i .skip
theorem step4 (x1 : (List Item)) (x2 : (List Item)) (x3 : Int) : L4.step E H (code 0) (x1, (x2, (x3, ()))) = raw4 x1 x2 x3 := by kernel_rfl
theorem lok4 : LoopOk E H (code 0) L4 := ⟨mu4, fun ⟨x1, x2, x3, ()⟩ hp => rounds_ok (step4 x1 x2 x3) (ok4 x1 x2 x3 hp)⟩
theorem run (x0 : (List Item)) (x1 : (List Item)) : runFn E H Tryz.f322 fs.ps fs.rs (x0, (x1, ())) = raw x0 x1 := by kernel_rfl
theorem env : EnvOk Tryz.prog E := env_cons laws_eqItem.known (env_nil tys)
theorem loops : ∀ c, Tryz.f322.body = some c → LoopsOk E H c := loops_of (by kernel_rfl) (by kernel_rfl) fun i l h => match i, h with
  | 0, h => Option.some.inj h ▸ lok4
  | n + 1, h => by cases h
theorem sound : Sound Tryz.prog 322 fs := fn_sound env mixed Tryz.func322 H loops fun ⟨x0, x1, ()⟩ hw _ => (run x0 x1).trans (eq x0 x1 hw)
theorem known : Seen Tryz.prog 322 fs := ⟨sound, _, Tryz.func322, by kernel_rfl, by kernel_rfl⟩
end laws_eqItemS
namespace laws_eqRow
noncomputable def fs : FS := ⟨[(.val tyS111 .f), (.val tyS111 .f)], [(.bool, .o)], fun _ => true, fun x => ((), ((laws_eqRow x.1 x.2.1), ()))⟩
noncomputable def E : Env := ⟨theta, [(322, laws_eqItemS.fs)], []⟩
noncomputable def H : List LC := []
noncomputable def code (i : Nat) : Code := (loopsOf (bodyOf Tryz.f270)).getD i .skip
theorem run (x0 : Row) (x1 : Row) : runFn E H Tryz.f270 fs.ps fs.rs (x0, (x1, ())) = raw x0 x1 := by kernel_rfl
theorem env : EnvOk Tryz.prog E := env_cons laws_eqItemS.known (env_nil tys)
theorem loops : ∀ c, Tryz.f270.body = some c → LoopsOk E H c := loops_none (by kernel_rfl)
theorem sound : Sound Tryz.prog 270 fs := fn_sound env mixed Tryz.func270 H loops fun ⟨x0, x1, ()⟩ hw _ => (run x0 x1).trans (eq x0 x1 hw)
theorem known : Seen Tryz.prog 270 fs := ⟨sound, _, Tryz.func270, by kernel_rfl, by kernel_rfl⟩
end laws_eqRow
namespace laws_eqRowS
noncomputable def fs : FS := ⟨[(.val (.sl 42 tyS111) .f), (.val (.sl 42 tyS111) .f)], [(.bool, .o)], fun _ => true, fun x => ((), ((laws_eqRowS x.1 x.2.1), ()))⟩
noncomputable def E : Env := ⟨theta, [(270, laws_eqRow.fs)], []⟩
noncomputable def sh4 : ShSt := ⟨[(.one (.dat (.sl 42 tyS111))), (.one (.dat (.sl 42 tyS111))), uu, uu, uu, ui, uu, uu, uu, uu, uu, uu, uu, uu, uu, uu, uu, uu, uu, uu, uu, uu, uu, uu, uu, uu, uu], []⟩
noncomputable def outs4 : List OutC := [⟨.ret, ⟨0, [4], []⟩, ⟨[uu, uu, uu, uu, (.one (.dat .bool)), uu, uu, uu, uu, uu, uu, uu, uu, uu, uu, uu, uu, uu, uu, uu, uu, uu, uu, uu, uu, uu, uu], []⟩⟩, ⟨(.exit 0), ⟨0, [], []⟩, ⟨[uu, uu, uu, uu, uu, uu, uu, uu, uu, uu, uu, uu, uu, uu, uu, uu, uu, uu, uu, uu, uu, uu, uu, uu, uu, uu, uu], []⟩⟩]
noncomputable def L4 : LC := ⟨4, ⟨4, [0, 1, 5], []⟩, sh4, outs4, pre4, fn4⟩
noncomputable def H : List LC := [L4]
noncomputable def code (i : Nat) : Code := (loopsOf (bodyOf Tryz.f179)).getD i .skip
theorem step4 (x1 : (List Row)) (x2 : (List Row)) (x3 : Int) : L4.step E H (code 0) (x1, (x2, (x3, ()))) = raw4 x1 x2 x3 := by kernel_rfl
theorem lok4 : LoopOk E H (code 0) L4 := ⟨mu4, fun ⟨x1, x2, x3, ()⟩ hp => rounds_ok (step4 x1 x2 x3) (ok4 x1 x2 x3 hp)⟩
theorem run (x0 : (List Row)) (x1 : (List Row)) : runFn E H Tryz.f179 fs.ps fs.rs (x0, (x1, ())) = raw x0 x1 := by kernel_rfl
theorem env : EnvOk Tryz.prog E := env_cons laws_eqRow.known (env_nil tys)
theorem loops : ∀ c, Tryz.f179.body = some c → LoopsOk E H c := loops_of (by kernel_rfl) (by kernel_rfl) fun i l h => match i, h with
  | 0, h => Option.some.inj h ▸ lok4
  | n + 1, h => by cases h
theorem sound : Sound Tryz.prog 179 fs := fn_sound env mixed Tryz.func179 H loops fun ⟨x0, x1, ()⟩ hw _ => (run x0 x1).trans (eq x0 x1 hw)
theorem known : Seen Tryz.prog 179 fs := ⟨sound, _, Tryz.func179, by kernel_rfl, by kernel_rfl⟩
end laws_eqRowS
namespace laws_eqMark
noncomputable def fs : FS := ⟨[(.val tyS113 .f), (.val tyS113 .f)], [(.bool, .o)], fun _ => true, fun x => ((), ((laws_eqMark x.1 x.2.1), ()))⟩
noncomputable def E : Env := ⟨theta, [], []⟩
noncomputable def H : List LC := []
noncomputable def code (i : Nat) : Code := (loopsOf (bodyOf Tryz.f362)).getD i .skip
theorem run (x0 : Mark) (x1 : Mark) : runFn E H Tryz.f362 fs.ps fs.rs (x0, (x1, ())) = raw x0 x1 := by kernel_rfl
theorem env : EnvOk Tryz.prog E := env_nil tys
theorem loops : ∀ c, Tryz.f362.body = some c → LoopsOk E H c := loops_none (by kernel_rfl)
theorem sound : Sound Tryz.prog 362 fs := fn_sound env mixed Tryz.func362 H loops fun ⟨x0, x1, ()⟩ hw _ => (run x0 x1).trans (eq x0 x1 hw)
theorem known : Seen Tryz.prog 362 fs := ⟨sound, _, Tryz.func362, by kernel_rfl, by kernel_rfl⟩
end laws_eqMark
namespace laws_eqMarkS
noncomputable def fs : FS := ⟨[(.val (.sl 254 tyS113) .f), (.val (.sl 254 tyS113) .f)], [(.bool, .o)], fun _ => true, fun x => ((), ((laws_eqMarkS x.1 x.2.1), ()))⟩
noncomputable def E : Env := ⟨theta, [(362, laws_eqMark.fs)], []⟩
noncomputable def sh4 : ShSt := ⟨[(.one (.dat (.sl 254 tyS113))), (.one (.dat (.sl 254 tyS113))), uu, uu, uu, ui, uu, uu, uu, uu, uu, uu, uu, uu, uu, uu, uu, uu, uu, uu, uu, uu, uu, uu, uu, uu, uu], []⟩
noncomputable def outs4 : List OutC := [⟨.ret, ⟨0, [4], []⟩, ⟨[uu, uu, uu, uu, (.one (.dat .bool)), uu, uu, uu, uu, uu, uu, uu, uu, uu, uu, uu, uu, uu, uu, uu, uu, uu, uu, uu, uu, uu, uu], []⟩⟩, ⟨(.exit 0), ⟨0, [], []⟩, ⟨[uu, uu, uu, uu, uu, uu, uu, uu, uu, uu, uu, uu, uu, uu, uu, uu, uu, uu, uu, uu, uu, uu, uu, uu, uu, uu, uu], []⟩⟩]
noncomputable def L4 : LC := ⟨4, ⟨4, [0, 1, 5], []⟩, sh4, outs4, pre4, fn4⟩
noncomputable def H : List LC := [L4]
noncomputable def code (i : Nat) : Code := (loopsOf (bodyOf Tryz.f323)).getD i .skip
theorem step4 (x1 : (List Mark)) (x2 : (List Mark)) (x3 : Int) : L4.step E H (code 0) (x1, (x2, (x3, ()))) = raw4 x1 x2 x3 := by kernel_rfl
theorem lok4 : LoopOk E H (code 0) L4 := ⟨mu4, fun ⟨x1, x2, x3, ()⟩ hp => rounds_ok (step4 x1 x2 x3) (ok4 x1 x2 x3 hp)⟩
theorem run (x0 : (List Mark)) (x1 : (List Mark)) : runFn E H Tryz.f323 fs.ps fs.rs (x0, (x1, ())) = raw x0 x1 := by kernel_rfl
theorem env : EnvOk Tryz.prog E := env_cons laws_eqMark.known (env_nil tys)
theorem loops : ∀ c, Tryz.f323.body = some c → LoopsOk E H c := loops_of (by kernel_rfl) (by kernel_rfl) fun i l h => match i, h with
  | 0, h => Option.some.inj h ▸ lok4
  | n + 1, h => by cases h
theorem sound : Sound Tryz.prog 323 fs := fn_sound env mixed Tryz.func323 H loops fun ⟨x0, x1, ()⟩ hw _ => (run x0 x1).trans (eq x0 x1 hw)
theorem known : Seen Tryz.prog 323 fs := ⟨sound, _, Tryz.func323, by kernel_rfl, by kernel_rfl⟩
end laws_eqMarkS
namespace laws_eqMaker
noncomputable def fs : FS := ⟨[(.val tyS15 .f), (.val tyS15 .f)], [(.bool, .o)], fun _ => true, fun x => ((), ((laws_eqMaker x.1 x.2.1), ()))⟩
noncomputable def E : Env := ⟨theta, [(323, laws_eqMarkS.fs)], []⟩
noncomputable def H : List LC := []
noncomputable def code (i : Nat) : Code := (loopsOf (bodyOf Tryz.f271)).getD i .skip
theorem run (x0 : Maker) (x1 : Maker) : runFn E H Tryz.f271 fs.ps fs.rs (x0, (x1, ())) = raw x0 x1 := by kernel_rfl
theorem env : EnvOk Tryz.prog E := env_cons laws_eqMarkS.known (env_nil tys)
theorem loops : ∀ c, Tryz.f271.body = some c → LoopsOk E H c := loops_none (by kernel_rfl)
theorem sound : Sound Tryz.prog 271 fs := fn_sound env mixed Tryz.func271 H loops fun ⟨x0, x1, ()⟩ hw _ => (run x0 x1).trans (eq x0 x1 hw)
theorem known : Seen Tryz.prog 271 fs := ⟨sound, _, Tryz.func271, by kernel_rfl, by kernel_rfl⟩
end laws_eqMaker
namespace laws_eqMakerS
noncomputable def fs : FS := ⟨[(.val (.sl 156 tyS15) .f), (.val (.sl 156 tyS15) .f)], [(.bool, .o)], fun _ => true, fun x => ((), ((laws_eqMakerS x.1 x.2.1), ()))⟩
noncomputable def E : Env := ⟨theta, [(271, laws_eqMaker.fs)], []⟩
noncomputable def sh4 : ShSt := ⟨[(.one (.dat (.sl 156 tyS15))), (.one (.dat (.sl 156 tyS15))), uu, uu, uu, ui, uu, uu, uu, uu, uu, uu, uu, uu, uu, uu, uu, uu, uu, uu, uu, uu, uu, uu, uu, uu, uu], []⟩
noncomputable def outs4 : List OutC := [⟨.ret, ⟨0, [4], []⟩, ⟨[uu, uu, uu, uu, (.one (.dat .bool)), uu, uu, uu, uu, uu, uu, uu, uu, uu, uu, uu, uu, uu, uu, uu, uu, uu, uu, uu, uu, uu, uu], []⟩⟩, ⟨(.exit 0), ⟨0, [], []⟩, ⟨[uu, uu, uu, uu, uu, uu, uu, uu, uu, uu, uu, uu, uu, uu, uu, uu, uu, uu, uu, uu, uu, uu, uu, uu, uu, uu, uu], []⟩⟩]
noncomputable def L4 : LC := ⟨4, ⟨4, [0, 1, 5], []⟩, sh4, outs4, pre4, fn4⟩
noncomputable def H : List LC := [L4]
noncomputable def code (i : Nat) : Code := (loopsOf (bodyOf Tryz.f180)).getD i .skip
theorem step4 (x1 : (List Maker)) (x2 : (List Maker)) (x3 : Int) : L4.step E H (code 0) (x1, (x2, (x3, ()))) = raw4 x1 x2 x3 := by kernel_rfl
theorem lok4 : LoopOk E H (code 0) L4 := ⟨mu4, fun ⟨x1, x2, x3, ()⟩ hp => rounds_ok (step4 x1 x2 x3) (ok4 x1 x2 x3 hp)⟩
theorem run (x0 : (List Maker)) (x1 : (List Maker)) : runFn E H Tryz.f180 fs.ps fs.rs (x0, (x1, ())) = raw x0 x1 := by kernel_rfl
theorem env : EnvOk Tryz.prog E := env_cons laws_eqMaker.known (env_nil tys)
theorem loops : ∀ c, Tryz.f180.body = some c → LoopsOk E H c := loops_of (by kernel_rfl) (by kernel_rfl) fun i l h => match i, h with
  | 0, h => Option.some.inj h ▸ lok4
  | n + 1, h => by cases h
theorem sound : Sound Tryz.prog 180 fs := fn_sound env mixed Tryz.func180 H loops fun ⟨x0, x1, ()⟩ hw _ => (run x0 x1).trans (eq x0 x1 hw)
theorem known : Seen Tryz.prog 180 fs := ⟨sound, _, Tryz.func180, by kernel_rfl, by kernel_rfl⟩
end laws_eqMakerS
namespace laws_eqIntS
noncomputable def fs : FS := ⟨[(.val (.sl 3 (.int .i64)) .f), (.val (.sl 3 (.int .i64)) .f)], [(.bool, .o)], fun _ => true, fun x => ((), ((laws_eqIntS x.1 x.2.1), ()))⟩
noncomputable def E : Env := ⟨theta, [], []⟩
noncomputable def sh4 : ShSt := ⟨[(.one (.dat (.sl 3 (.int .i64)))), (.one (.dat (.sl 3 (.int .i64)))), uu, uu, uu, ui, uu, uu, uu, uu, uu, uu, uu, uu, uu, uu, uu, uu, uu, uu, uu, uu, uu, uu, uu, uu], []⟩
noncomputable def outs4 : List OutC := [⟨.ret, ⟨0, [4], []⟩, ⟨[uu, uu, uu, uu, (.one (.dat .bool)), uu, uu, uu, uu, uu, uu, uu, uu, uu, uu, uu, uu, uu, uu, uu, uu, uu, uu, uu, uu, uu], []⟩⟩, ⟨(.exit 0), ⟨0, [], []⟩, ⟨[uu, uu, uu, uu, uu, uu, uu, uu, uu, uu, uu, uu, uu, uu, uu, uu, uu, uu, uu, uu, uu, uu, uu, uu, uu, uu], []⟩⟩]
noncomputable def L4 : LC := ⟨4, ⟨4, [0, 1, 5], []⟩, sh4, outs4, pre4, fn4⟩
noncomputable def H : List LC := [L4]
noncomputable def code (i : Nat) : Code := (loopsOf (bodyOf Tryz.f146)).getD i .skip
theorem step4 (x1 : (List Int)) (x2 : (List Int)) (x3 : Int) : L4.step E H (code 0) (x1, (x2, (x3, ()))) = raw4 x1 x2 x3 := by kernel_rfl
theorem lok4 : LoopOk E H (code 0) L4 := ⟨mu4, fun ⟨x1, x2, x3, ()⟩ hp => rounds_ok (step4 x1 x2 x3) (ok4 x1 x2 x3 hp)⟩
theorem run (x0 : (List Int)) (x1 : (List Int)) : runFn E H Tryz.f146 fs.ps fs.rs (x0, (x1, ())) = raw x0 x1 := by kernel_rfl
theorem env : EnvOk Tryz.prog E := env_nil tys
theorem loops : ∀ c, Tryz.f146.body = some c → LoopsOk E H c := loops_of (by kernel_rfl) (by kernel_rfl) fun i l h => match i, h with
  | 0, h => Option.some.inj h ▸ lok4
  | n + 1, h => by cases h
theorem sound : Sound Tryz.prog 146 fs := fn_sound env mixed Tryz.func146 H loops fun ⟨x0, x1, ()⟩ hw _ => (run x0 x1).trans (eq x0 x1 hw)
theorem known : Seen Tryz.prog 146 fs := ⟨sound, _, Tryz.func146, by kernel_rfl, by kernel_rfl⟩
end laws_eqIntS
namespace laws_eqGroup
noncomputable def fs : FS := ⟨[(.val tyS18 .f), (.val tyS18 .f)], [(.bool, .o)], fun _ => true, fun x => ((), ((laws_eqGroup x.1 x.2.1), ()))⟩
noncomputable def E : Env := ⟨theta, [(146, laws_eqIntS.fs)], []⟩
noncomputable def H : List LC := []
noncomputable def code (i : Nat) : Code := (loopsOf (bodyOf Tryz.f272)).getD i .skip
theorem run (x0 : Group) (x1 : Group) : runFn E H Tryz.f272 fs.ps fs.rs (x0, (x1, ())) = raw x0 x1 := by kernel_rfl
theorem env : EnvOk Tryz.prog E := env_cons laws_eqIntS.known (env_nil tys)
theorem loops : ∀ c, Tryz.f272.body = some c → LoopsOk E H c := loops_none (by kernel_rfl)
theorem sound : Sound Tryz.prog 272 fs := fn_sound env mixed Tryz.func272 H loops fun ⟨x0, x1, ()⟩ hw _ => (run x0 x1).trans (eq x0 x1 hw)
theorem known : Seen Tryz.prog 272 fs := ⟨sound, _, Tryz.func272, by kernel_rfl, by kernel_rfl⟩
end laws_eqGroup
namespace laws_eqGroupS
noncomputable def fs : FS := ⟨[(.val (.sl 159 tyS18) .f), (.val (.sl 159 tyS18) .f)], [(.bool, .o)], fun _ => true, fun x => ((), ((laws_eqGroupS x.1 x.2.1), ()))⟩
noncomputable def E : Env := ⟨theta, [(272, laws_eqGroup.fs)], []⟩
noncomputable def sh4 : ShSt := ⟨[(.one (.dat (.sl 159 tyS18))), (.one (.dat (.sl 159 tyS18))), uu, uu, uu, ui, uu, uu, uu, uu, uu, uu, uu, uu, uu, uu, uu, uu, uu, uu, uu, uu, uu, uu, uu, uu, uu], []⟩
noncomputable def outs4 : List OutC := [⟨.ret, ⟨0, [4], []⟩, ⟨[uu, uu, uu, uu, (.one (.dat .bool)), uu, uu, uu, uu, uu, uu, uu, uu, uu, uu, uu, uu, uu, uu, uu, uu, uu, uu, uu, uu, uu, uu], []⟩⟩, ⟨(.exit 0), ⟨0, [], []⟩, ⟨[uu, uu, uu, uu, uu, uu, uu, uu, uu, uu, uu, uu, uu, uu, uu, uu, uu, uu, uu, uu, uu, uu, uu, uu, uu, uu, uu], []⟩⟩]
noncomputable def L4 : LC := ⟨4, ⟨4, [0, 1, 5], []⟩, sh4, outs4, pre4, fn4⟩
noncomputable def H : List LC := [L4]
noncomputable def code (i : Nat) : Code := (loopsOf (bodyOf Tryz.f181)).getD i .skip
theorem step4 (x1 : (List Group)) (x2 : (List Group)) (x3 : Int) : L4.step E H (code 0) (x1, (x2, (x3, ()))) = raw4 x1 x2 x3 := by kernel_rfl
theorem lok4 : LoopOk E H (code 0) L4 := ⟨mu4, fun ⟨x1, x2, x3, ()⟩ hp => rounds_ok (step4 x1 x2 x3) (ok4 x1 x2 x3 hp)⟩
theorem run (x0 : (List Group)) (x1 : (List Group)) : runFn E H Tryz.f181 fs.ps fs.rs (x0, (x1, ())) = raw x0 x1 := by kernel_rfl
theorem env : EnvOk Tryz.prog E := env_cons laws_eqGroup.known (env_nil tys)
theorem loops : ∀ c, Tryz.f181.body = some c → LoopsOk E H c := loops_of (by kernel_rfl) (by kernel_rfl) fun i l h => match i, h with
  | 0, h => Option.some.inj h ▸ lok4
  | n + 1, h => by cases h
theorem sound : Sound Tryz.prog 181 fs := fn_sound env mixed Tryz.func181 H loops fun ⟨x0, x1, ()⟩ hw _ => (run x0 x1).trans (eq x0 x1 hw)
theorem known : Seen Tryz.prog 181 fs := ⟨sound, _, Tryz.func181, by kernel_rfl, by kernel_rfl⟩
end laws_eqGroupS
namespace laws_eqAnswer
noncomputable def fs : FS := ⟨[(.val tyS19 .f), (.val tyS19 .f)], [(.bool, .o)], fun _ => true, fun x => ((), ((laws_eqAnswer x.1 x.2.1), ()))⟩
noncomputable def E : Env := ⟨theta, [], []⟩
noncomputable def H : List LC := []
noncomputable def code (i : Nat) : Code := (loopsOf (bodyOf Tryz.f182)).getD i .skip
theorem run (x0 : Answer) (x1 : Answer) : runFn E H Tryz.f182 fs.ps fs.rs (x0, (x1, ())) = raw x0 x1 := by kernel_rfl
theorem env : EnvOk Tryz.prog E := env_nil tys
theorem loops : ∀ c, Tryz.f182.body = some c → LoopsOk E H c := loops_none (by kernel_rfl)
theorem sound : Sound Tryz.prog 182 fs := fn_sound env mixed Tryz.func182 H loops fun ⟨x0, x1, ()⟩ hw _ => (run x0 x1).trans (eq x0 x1 hw)
theorem known : Seen Tryz.prog 182 fs := ⟨sound, _, Tryz.func182, by kernel_rfl, by kernel_rfl⟩
end laws_eqAnswer
namespace laws_eqAnswerS
noncomputable def fs : FS := ⟨[(.val (.sl 48 tyS19) .f), (.val (.sl 48 tyS19) .f)], [(.bool, .o)], fun _ => true, fun x => ((), ((laws_eqAnswerS x.1 x.2.1), ()))⟩
noncomputable def E : Env := ⟨theta, [(182, laws_eqAnswer.fs)], []⟩
noncomputable def sh4 : ShSt := ⟨[(.one (.dat (.sl 48 tyS19))), (.one (.dat (.sl 48 tyS19))), uu, uu, uu, ui, uu, uu, uu, uu, uu, uu, uu, uu, uu, uu, uu, uu, uu, uu, uu, uu, uu, uu, uu, uu, uu], []⟩
noncomputable def outs4 : List OutC := [⟨.ret, ⟨0, [4], []⟩, ⟨[uu, uu, uu, uu, (.one (.dat .bool)), uu, uu, uu, uu, uu, uu, uu, uu, uu, uu, uu, uu, uu, uu, uu, uu, uu, uu, uu, uu, uu, uu], []⟩⟩, ⟨(.exit 0), ⟨0, [], []⟩, ⟨[uu, uu, uu, uu, uu, uu, uu, uu, uu, uu, uu, uu, uu, uu, uu, uu, uu, uu, uu, uu, uu, uu, uu, uu, uu, uu, uu], []⟩⟩]
noncomputable def L4 : LC := ⟨4, ⟨4, [0, 1, 5], []⟩, sh4, outs4, pre4, fn4⟩
noncomputable def H : List LC := [L4]
noncomputable def code (i : Nat) : Code := (loopsOf (bodyOf Tryz.f60)).getD i .skip
theorem step4 (x1 : (List Answer)) (x2 : (List Answer)) (x3 : Int) : L4.step E H (code 0) (x1, (x2, (x3, ()))) = raw4 x1 x2 x3 := by kernel_rfl
theorem lok4 : LoopOk E H (code 0) L4 := ⟨mu4, fun ⟨x1, x2, x3, ()⟩ hp => rounds_ok (step4 x1 x2 x3) (ok4 x1 x2 x3 hp)⟩
theorem run (x0 : (List Answer)) (x1 : (List Answer)) : runFn E H Tryz.f60 fs.ps fs.rs (x0, (x1, ())) = raw x0 x1 := by kernel_rfl
theorem env : EnvOk Tryz.prog E := env_cons laws_eqAnswer.known (env_nil tys)
theorem loops : ∀ c, Tryz.f60.body = some c → LoopsOk E H c := loops_of (by kernel_rfl) (by kernel_rfl) fun i l h => match i, h with
  | 0, h => Option.some.inj h ▸ lok4
  | n + 1, h => by cases h
theorem sound : Sound Tryz.prog 60 fs := fn_sound env mixed Tryz.func60 H loops fun ⟨x0, x1, ()⟩ hw _ => (run x0 x1).trans (eq x0 x1 hw)
theorem known : Seen Tryz.prog 60 fs := ⟨sound, _, Tryz.func60, by kernel_rfl, by kernel_rfl⟩
end laws_eqAnswerS
namespace laws_eqKeep
noncomputable def fs : FS := ⟨[(.val tyS11 .f), (.val tyS11 .f)], [(.bool, .o)], fun _ => true, fun x => ((), ((laws_eqKeep x.1 x.2.1), ()))⟩
noncomputable def E : Env := ⟨theta, [(179, laws_eqRowS.fs), (180, laws_eqMakerS.fs), (146, laws_eqIntS.fs), (181, laws_eqGroupS.fs), (60, laws_eqAnswerS.fs)], []⟩
noncomputable def H : List LC := []
noncomputable def code (i : Nat) : Code := (loopsOf (bodyOf Tryz.f59)).getD i .skip
theorem run (x0 : ((List Row) × ((List Maker) × ((List Group) × (Int × ((List Int) × ((List Answer) × Unit))))))) (x1 : ((List Row) × ((List Maker) × ((List Group) × (Int × ((List Int) × ((List Answer) × Unit))))))) : runFn E H Tryz.f59 fs.ps fs.rs (x0, (x1, ())) = raw x0 x1 := by kernel_rfl
theorem env : EnvOk Tryz.prog E := env_cons laws_eqRowS.known (env_cons laws_eqMakerS.known (env_cons laws_eqIntS.known (env_cons laws_eqGroupS.known (env_cons laws_eqAnswerS.known (env_nil tys)))))
theorem loops : ∀ c, Tryz.f59.body = some c → LoopsOk E H c := loops_none (by kernel_rfl)
theorem sound : Sound Tryz.prog 59 fs := fn_sound env mixed Tryz.func59 H loops fun ⟨x0, x1, ()⟩ hw _ => (run x0 x1).trans (eq x0 x1 hw)
theorem known : Seen Tryz.prog 59 fs := ⟨sound, _, Tryz.func59, by kernel_rfl, by kernel_rfl⟩
end laws_eqKeep
namespace laws_eqHard
noncomputable def fs : FS := ⟨[(.val (.pair (.int .i64) (.pair (.int .i64) (.pair tyS114 (.pair tyS11 .unit)))) .f), (.val (.pair (.int .i64) (.pair (.int .i64) (.pair tyS114 (.pair tyS11 .unit)))) .f)], [(.bool, .o)], fun _ => true, fun x => ((), ((laws_eqHard x.1 x.2.1), ()))⟩
noncomputable def E : Env := ⟨theta, [(191, laws_eqLog.fs), (59, laws_eqKeep.fs)], []⟩
noncomputable def H : List LC := []
noncomputable def code (i : Nat) : Code := (loopsOf (bodyOf Tryz.f70)).getD i .skip
theorem run (x0 : (Int × (Int × (Log × (((List Row) × ((List Maker) × ((List Group) × (Int × ((List Int) × ((List Answer) × Unit)))))) × Unit))))) (x1 : (Int × (Int × (Log × (((List Row) × ((List Maker) × ((List Group) × (Int × ((List Int) × ((List Answer) × Unit)))))) × Unit))))) : runFn E H Tryz.f70 fs.ps fs.rs (x0, (x1, ())) = raw x0 x1 := by kernel_rfl
theorem env : EnvOk Tryz.prog E := env_cons laws_eqLog.known (env_cons laws_eqKeep.known (env_nil tys))
theorem loops : ∀ c, Tryz.f70.body = some c → LoopsOk E H c := loops_none (by kernel_rfl)
theorem sound : Sound Tryz.prog 70 fs := fn_sound env mixed Tryz.func70 H loops fun ⟨x0, x1, ()⟩ hw _ => (run x0 x1).trans (eq x0 x1 hw)
theorem known : Seen Tryz.prog 70 fs := ⟨sound, _, Tryz.func70, by kernel_rfl, by kernel_rfl⟩
end laws_eqHard
namespace laws_eqBoolS
noncomputable def fs : FS := ⟨[(.val (.sl 4 .bool) .f), (.val (.sl 4 .bool) .f)], [(.bool, .o)], fun _ => true, fun x => ((), ((laws_eqBoolS x.1 x.2.1), ()))⟩
noncomputable def E : Env := ⟨theta, [], []⟩
noncomputable def sh4 : ShSt := ⟨[(.one (.dat (.sl 4 .bool))), (.one (.dat (.sl 4 .bool))), uu, uu, uu, ui, uu, uu, uu, uu, uu, uu, uu, uu, uu, uu, uu, uu, uu, uu, uu, uu, uu, uu, uu, uu], []⟩
noncomputable def outs4 : List OutC := [⟨.ret, ⟨0, [4], []⟩, ⟨[uu, uu, uu, uu, (.one (.dat .bool)), uu, uu, uu, uu, uu, uu, uu, uu, uu, uu, uu, uu, uu, uu, uu, uu, uu, uu, uu, uu, uu], []⟩⟩, ⟨(.exit 0), ⟨0, [], []⟩, ⟨[uu, uu, uu, uu, uu, uu, uu, uu, uu, uu, uu, uu, uu, uu, uu, uu, uu, uu, uu, uu, uu, uu, uu, uu, uu, uu], []⟩⟩]
noncomputable def L4 : LC := ⟨4, ⟨4, [0, 1, 5], []⟩, sh4, outs4, pre4, fn4⟩
noncomputable def H : List LC := [L4]
noncomputable def code (i : Nat) : Code := (loopsOf (bodyOf Tryz.f145)).getD i .skip
theorem step4 (x1 : (List Bool)) (x2 : (List Bool)) (x3 : Int) : L4.step E H (code 0) (x1, (x2, (x3, ()))) = raw4 x1 x2 x3 := by kernel_rfl
theorem lok4 : LoopOk E H (code 0) L4 := ⟨mu4, fun ⟨x1, x2, x3, ()⟩ hp => rounds_ok (step4 x1 x2 x3) (ok4 x1 x2 x3 hp)⟩
theorem run (x0 : (List Bool)) (x1 : (List Bool)) : runFn E H Tryz.f145 fs.ps fs.rs (x0, (x1, ())) = raw x0 x1 := by kernel_rfl
theorem env : EnvOk Tryz.prog E := env_nil tys
theorem loops : ∀ c, Tryz.f145.body = some c → LoopsOk E H c := loops_of (by kernel_rfl) (by kernel_rfl) fun i l h => match i, h with
  | 0, h => Option.some.inj h ▸ lok4
  | n + 1, h => by cases h
theorem sound : Sound Tryz.prog 145 fs := fn_sound env mixed Tryz.func145 H loops fun ⟨x0, x1, ()⟩ hw _ => (run x0 x1).trans (eq x0 x1 hw)
theorem known : Seen Tryz.prog 145 fs := ⟨sound, _, Tryz.func145, by kernel_rfl, by kernel_rfl⟩
end laws_eqBoolS
namespace laws_eqByteS
noncomputable def fs : FS := ⟨[(.val (.sl 5 (.int .u8)) .f), (.val (.sl 5 (.int .u8)) .f)], [(.bool, .o)], fun _ => true, fun x => ((), ((laws_eqByteS x.1 x.2.1), ()))⟩
noncomputable def E : Env := ⟨theta, [], []⟩
noncomputable def sh4 : ShSt := ⟨[(.one (.dat (.sl 5 (.int .u8)))), (.one (.dat (.sl 5 (.int .u8)))), uu, uu, uu, ui, uu, uu, uu, uu, uu, uu, uu, uu, uu, uu, uu, uu, uu, uu, uu, uu, uu, uu, uu, uu], []⟩
noncomputable def outs4 : List OutC := [⟨.ret, ⟨0, [4], []⟩, ⟨[uu, uu, uu, uu, (.one (.dat .bool)), uu, uu, uu, uu, uu, uu, uu, uu, uu, uu, uu, uu, uu, uu, uu, uu, uu, uu, uu, uu, uu], []⟩⟩, ⟨(.exit 0), ⟨0, [], []⟩, ⟨[uu, uu, uu, uu, uu, uu, uu, uu, uu, uu, uu, uu, uu, uu, uu, uu, uu, uu, uu, uu, uu, uu, uu, uu, uu, uu], []⟩⟩]
noncomputable def L4 : LC := ⟨4, ⟨4, [0, 1, 5], []⟩, sh4, outs4, pre4, fn4⟩
noncomputable def H : List LC := [L4]
noncomputable def code (i : Nat) : Code := (loopsOf (bodyOf Tryz.f71)).getD i .skip
theorem step4 (x1 : (List Int)) (x2 : (List Int)) (x3 : Int) : L4.step E H (code 0) (x1, (x2, (x3, ()))) = raw4 x1 x2 x3 := by kernel_rfl
theorem lok4 : LoopOk E H (code 0) L4 := ⟨mu4, fun ⟨x1, x2, x3, ()⟩ hp => rounds_ok (step4 x1 x2 x3) (ok4 x1 x2 x3 hp)⟩
theorem run (x0 : (List Int)) (x1 : (List Int)) : runFn E H Tryz.f71 fs.ps fs.rs (x0, (x1, ())) = raw x0 x1 := by kernel_rfl
theorem env : EnvOk Tryz.prog E := env_nil tys
theorem loops : ∀ c, Tryz.f71.body = some c → LoopsOk E H c := loops_of (by kernel_rfl) (by kernel_rfl) fun i l h => match i, h with
  | 0, h => Option.some.inj h ▸ lok4
  | n + 1, h => by cases h
theorem sound : Sound Tryz.prog 71 fs := fn_sound env mixed Tryz.func71 H loops fun ⟨x0, x1, ()⟩ hw _ => (run x0 x1).trans (eq x0 x1 hw)
theorem known : Seen Tryz.prog 71 fs := ⟨sound, _, Tryz.func71, by kernel_rfl, by kernel_rfl⟩
end laws_eqByteS
namespace laws_eqDisk
noncomputable def fs : FS := ⟨[(.val (.pair (.sl 5 (.int .u8)) (.pair (.int .i64) .unit)) .f), (.val (.pair (.sl 5 (.int .u8)) (.pair (.int .i64) .unit)) .f)], [(.bool, .o)], fun _ => true, fun x => ((), ((laws_eqDisk x.1 x.2.1), ()))⟩
noncomputable def E : Env := ⟨theta, [(71, laws_eqByteS.fs)], []⟩
noncomputable def H : List LC := []
noncomputable def code (i : Nat) : Code := (loopsOf (bodyOf Tryz.f147)).getD i .skip
theorem run (x0 : Disk) (x1 : Disk) : runFn E H Tryz.f147 fs.ps fs.rs (x0, (x1, ())) = raw x0 x1 := by kernel_rfl
theorem env : EnvOk Tryz.prog E := env_cons laws_eqByteS.known (env_nil tys)
theorem loops : ∀ c, Tryz.f147.body = some c → LoopsOk E H c := loops_none (by kernel_rfl)
theorem sound : Sound Tryz.prog 147 fs := fn_sound env mixed Tryz.func147 H loops fun ⟨x0, x1, ()⟩ hw _ => (run x0 x1).trans (eq x0 x1 hw)
theorem known : Seen Tryz.prog 147 fs := ⟨sound, _, Tryz.func147, by kernel_rfl, by kernel_rfl⟩
end laws_eqDisk
namespace laws_eqRpcS
noncomputable def fs : FS := ⟨[(.val (.sl 113 tyS14) .f), (.val (.sl 113 tyS14) .f)], [(.bool, .o)], fun _ => true, fun x => ((), ((laws_eqRpcS x.1 x.2.1), ()))⟩
noncomputable def E : Env := ⟨theta, [(55, laws_eqRpc.fs)], []⟩
noncomputable def sh4 : ShSt := ⟨[(.one (.dat (.sl 113 tyS14))), (.one (.dat (.sl 113 tyS14))), uu, uu, uu, ui, uu, uu, uu, uu, uu, uu, uu, uu, uu, uu, uu, uu, uu, uu, uu, uu, uu, uu, uu, uu, uu], []⟩
noncomputable def outs4 : List OutC := [⟨.ret, ⟨0, [4], []⟩, ⟨[uu, uu, uu, uu, (.one (.dat .bool)), uu, uu, uu, uu, uu, uu, uu, uu, uu, uu, uu, uu, uu, uu, uu, uu, uu, uu, uu, uu, uu, uu], []⟩⟩, ⟨(.exit 0), ⟨0, [], []⟩, ⟨[uu, uu, uu, uu, uu, uu, uu, uu, uu, uu, uu, uu, uu, uu, uu, uu, uu, uu, uu, uu, uu, uu, uu, uu, uu, uu, uu], []⟩⟩]
noncomputable def L4 : LC := ⟨4, ⟨4, [0, 1, 5], []⟩, sh4, outs4, pre4, fn4⟩
noncomputable def H : List LC := [L4]
noncomputable def code (i : Nat) : Code := (loopsOf (bodyOf Tryz.f148)).getD i .skip
theorem step4 (x1 : (List (Int × (Int × (Int × (Int × (Int × (Int × (Int × ((List Entry) × (Bool × ((List UInt8) × Unit)))))))))))) (x2 : (List (Int × (Int × (Int × (Int × (Int × (Int × (Int × ((List Entry) × (Bool × ((List UInt8) × Unit)))))))))))) (x3 : Int) : L4.step E H (code 0) (x1, (x2, (x3, ()))) = raw4 x1 x2 x3 := by kernel_rfl
theorem lok4 : LoopOk E H (code 0) L4 := ⟨mu4, fun ⟨x1, x2, x3, ()⟩ hp => rounds_ok (step4 x1 x2 x3) (ok4 x1 x2 x3 hp)⟩
theorem run (x0 : (List (Int × (Int × (Int × (Int × (Int × (Int × (Int × ((List Entry) × (Bool × ((List UInt8) × Unit)))))))))))) (x1 : (List (Int × (Int × (Int × (Int × (Int × (Int × (Int × ((List Entry) × (Bool × ((List UInt8) × Unit)))))))))))) : runFn E H Tryz.f148 fs.ps fs.rs (x0, (x1, ())) = raw x0 x1 := by kernel_rfl
theorem env : EnvOk Tryz.prog E := env_cons laws_eqRpc.known (env_nil tys)
theorem loops : ∀ c, Tryz.f148.body = some c → LoopsOk E H c := loops_of (by kernel_rfl) (by kernel_rfl) fun i l h => match i, h with
  | 0, h => Option.some.inj h ▸ lok4
  | n + 1, h => by cases h
theorem sound : Sound Tryz.prog 148 fs := fn_sound env mixed Tryz.func148 H loops fun ⟨x0, x1, ()⟩ hw _ => (run x0 x1).trans (eq x0 x1 hw)
theorem known : Seen Tryz.prog 148 fs := ⟨sound, _, Tryz.func148, by kernel_rfl, by kernel_rfl⟩
end laws_eqRpcS
namespace laws_eqPeer
noncomputable def fs : FS := ⟨[(.val tyS17 .f), (.val tyS17 .f)], [(.bool, .o)], fun _ => true, fun x => ((), ((laws_eqPeer x.1 x.2.1), ()))⟩
noncomputable def E : Env := ⟨theta, [(146, laws_eqIntS.fs), (59, laws_eqKeep.fs), (70, laws_eqHard.fs), (145, laws_eqBoolS.fs), (147, laws_eqDisk.fs), (148, laws_eqRpcS.fs)], []⟩
noncomputable def H : List LC := []
noncomputable def code (i : Nat) : Code := (loopsOf (bodyOf Tryz.f46)).getD i .skip
theorem run (x0 : (Int × ((Int × (Int × (Log × (((List Row) × ((List Maker) × ((List Group) × (Int × ((List Int) × ((List Answer) × Unit)))))) × Unit)))) × (Int × ((List Bool) × ((List Int) × ((List Int) × (Int × (((List Row) × ((List Maker) × ((List Group) × (Int × ((List Int) × ((List Answer) × Unit)))))) × (Disk × ((List (Int × (Int × (Int × (Int × (Int × (Int × (Int × ((List Entry) × (Bool × ((List UInt8) × Unit))))))))))) × Unit))))))))))) (x1 : (Int × ((Int × (Int × (Log × (((List Row) × ((List Maker) × ((List Group) × (Int × ((List Int) × ((List Answer) × Unit)))))) × Unit)))) × (Int × ((List Bool) × ((List Int) × ((List Int) × (Int × (((List Row) × ((List Maker) × ((List Group) × (Int × ((List Int) × ((List Answer) × Unit)))))) × (Disk × ((List (Int × (Int × (Int × (Int × (Int × (Int × (Int × ((List Entry) × (Bool × ((List UInt8) × Unit))))))))))) × Unit))))))))))) : runFn E H Tryz.f46 fs.ps fs.rs (x0, (x1, ())) = raw x0 x1 := by kernel_rfl
theorem env : EnvOk Tryz.prog E := env_cons laws_eqIntS.known (env_cons laws_eqKeep.known (env_cons laws_eqHard.known (env_cons laws_eqBoolS.known (env_cons laws_eqDisk.known (env_cons laws_eqRpcS.known (env_nil tys))))))
theorem loops : ∀ c, Tryz.f46.body = some c → LoopsOk E H c := loops_none (by kernel_rfl)
theorem sound : Sound Tryz.prog 46 fs := fn_sound env mixed Tryz.func46 H loops fun ⟨x0, x1, ()⟩ hw _ => (run x0 x1).trans (eq x0 x1 hw)
theorem known : Seen Tryz.prog 46 fs := ⟨sound, _, Tryz.func46, by kernel_rfl, by kernel_rfl⟩
end laws_eqPeer
namespace laws_heldEntryS
noncomputable def fs : FS := ⟨[(.val (.sl 167 tyS12) .f), (.val (.int .i64) .f)], [((.int .i64), .o)], fun x => laws_heldEntryS.pre x.1 x.2.1, fun x => ((), ((laws_heldEntryS x.1 x.2.1), ()))⟩
noncomputable def E : Env := ⟨theta, [(184, laws_markText.fs)], []⟩
noncomputable def sh2 : ShSt := ⟨[(.one (.dat (.sl 167 tyS12))), ui, uu, uu, uu, ui, uu, uu, uu, uu, uu, uu, uu, uu, uu, uu, uu, uu, uu, uu, uu, uu, uu, uu, uu, uu, uu, uu, uu, uu, uu, uu, uu, uu, uu, uu, uu, uu, uu, uu, uu, uu, uu, uu, uu, uu, uu, uu, uu, uu, uu, uu, uu, uu, uu, uu, uu, uu, uu, uu, uu, uu, uu, uu, uu, uu, uu, uu, uu, uu, uu, uu, uu, uu, uu, uu, uu, uu, uu, uu, uu, uu, uu, uu, uu, uu, uu, uu, uu, uu, uu, uu, uu, uu, uu, uu, uu, uu, uu, uu, uu, uu, uu, uu], []⟩
noncomputable def outs2 : List OutC := [⟨.ret, ⟨0, [4], []⟩, ⟨[uu, uu, uu, uu, ui, uu, uu, uu, uu, uu, uu, uu, uu, uu, uu, uu, uu, uu, uu, uu, uu, uu, uu, uu, uu, uu, uu, uu, uu, uu, uu, uu, uu, uu, uu, uu, uu, uu, uu, uu, uu, uu, uu, uu, uu, uu, uu, uu, uu, uu, uu, uu, uu, uu, uu, uu, uu, uu, uu, uu, uu, uu, uu, uu, uu, uu, uu, uu, uu, uu, uu, uu, uu, uu, uu, uu, uu, uu, uu, uu, uu, uu, uu, uu, uu, uu, uu, uu, uu, uu, uu, uu, uu, uu, uu, uu, uu, uu, uu, uu, uu, uu, uu, uu], []⟩⟩, ⟨(.exit 0), ⟨0, [1], []⟩, ⟨[uu, ui, uu, uu, uu, uu, uu, uu, uu, uu, uu, uu, uu, uu, uu, uu, uu, uu, uu, uu, uu, uu, uu, uu, uu, uu, uu, uu, uu, uu, uu, uu, uu, uu, uu, uu, uu, uu, uu, uu, uu, uu, uu, uu, uu, uu, uu, uu, uu, uu, uu, uu, uu, uu, uu, uu, uu, uu, uu, uu, uu, uu, uu, uu, uu, uu, uu, uu, uu, uu, uu, uu, uu, uu, uu, uu, uu, uu, uu, uu, uu, uu, uu, uu, uu, uu, uu, uu, uu, uu, uu, uu, uu, uu, uu, uu, uu, uu, uu, uu, uu, uu, uu, uu], []⟩⟩]
noncomputable def L2 : LC := ⟨2, ⟨2, [0, 1, 5], []⟩, sh2, outs2, pre2, fn2⟩
noncomputable def H : List LC := [L2]
noncomputable def code (i : Nat) : Code := (loopsOf (bodyOf Tryz.f251)).getD i .skip
theorem step2 (x1 : (List Entry)) (x2 : Int) (x3 : Int) : L2.step E H (code 0) (x1, (x2, (x3, ()))) = raw2 x1 x2 x3 := by kernel_rfl
theorem lok2 : LoopOk E H (code 0) L2 := ⟨mu2, fun ⟨x1, x2, x3, ()⟩ hp => rounds_ok (step2 x1 x2 x3) (ok2 x1 x2 x3 hp)⟩
theorem run (x0 : (List Entry)) (x1 : Int) : runFn E H Tryz.f251 fs.ps fs.rs (x0, (x1, ())) = raw x0 x1 := by kernel_rfl
theorem env : EnvOk Tryz.prog E := env_cons laws_markText.known (env_nil tys)
theorem loops : ∀ c, Tryz.f251.body = some c → LoopsOk E H c := loops_of (by kernel_rfl) (by kernel_rfl) fun i l h => match i, h with
  | 0, h => Option.some.inj h ▸ lok2
  | n + 1, h => by cases h
theorem sound : Sound Tryz.prog 251 fs := fn_sound env mixed Tryz.func251 H loops fun ⟨x0, x1, ()⟩ hw hp => (run x0 x1).trans (eq x0 x1 hw hp)
theorem known : Seen Tryz.prog 251 fs := ⟨sound, _, Tryz.func251, by kernel_rfl, by kernel_rfl⟩
end laws_heldEntryS
namespace laws_heldLog
noncomputable def fs : FS := ⟨[(.val tyS114 .f), (.val (.int .i64) .f)], [((.int .i64), .o)], fun x => laws_heldLog.pre x.1 x.2.1, fun x => ((), ((laws_heldLog x.1 x.2.1), ()))⟩
noncomputable def E : Env := ⟨theta, [(251, laws_heldEntryS.fs)], []⟩
noncomputable def H : List LC := []
noncomputable def code (i : Nat) : Code := (loopsOf (bodyOf Tryz.f193)).getD i .skip
theorem run (x0 : Log) (x1 : Int) : runFn E H Tryz.f193 fs.ps fs.rs (x0, (x1, ())) = raw x0 x1 := by kernel_rfl
theorem env : EnvOk Tryz.prog E := env_cons laws_heldEntryS.known (env_nil tys)
theorem loops : ∀ c, Tryz.f193.body = some c → LoopsOk E H c := loops_none (by kernel_rfl)
theorem sound : Sound Tryz.prog 193 fs := fn_sound env mixed Tryz.func193 H loops fun ⟨x0, x1, ()⟩ hw hp => (run x0 x1).trans (eq x0 x1 hw hp)
theorem known : Seen Tryz.prog 193 fs := ⟨sound, _, Tryz.func193, by kernel_rfl, by kernel_rfl⟩
end laws_heldLog
namespace laws_heldItemS
noncomputable def fs : FS := ⟨[(.val (.sl 44 tyS16) .f), (.val (.int .i64) .f)], [((.int .i64), .o)], fun x => laws_heldItemS.pre x.1 x.2.1, fun x => ((), ((laws_heldItemS x.1 x.2.1), ()))⟩
noncomputable def E : Env := ⟨theta, [(184, laws_markText.fs)], []⟩
noncomputable def sh2 : ShSt := ⟨[(.one (.dat (.sl 44 tyS16))), ui, uu, uu, uu, ui, uu, uu, uu, uu, uu, uu, uu, uu, uu, uu, uu, uu, uu, uu, uu, uu, uu, uu, uu, uu, uu, uu, uu, uu, uu, uu, uu, uu, uu, uu, uu, uu, uu, uu, uu, uu, uu, uu, uu, uu, uu, uu, uu, uu, uu, uu, uu, uu, uu, uu, uu, uu, uu, uu], []⟩
noncomputable def outs2 : List OutC := [⟨.ret, ⟨0, [4], []⟩, ⟨[uu, uu, uu, uu, ui, uu, uu, uu, uu, uu, uu, uu, uu, uu, uu, uu, uu, uu, uu, uu, uu, uu, uu, uu, uu, uu, uu, uu, uu, uu, uu, uu, uu, uu, uu, uu, uu, uu, uu, uu, uu, uu, uu, uu, uu, uu, uu, uu, uu, uu, uu, uu, uu, uu, uu, uu, uu, uu, uu, uu], []⟩⟩, ⟨(.exit 0), ⟨0, [1], []⟩, ⟨[uu, ui, uu, uu, uu, uu, uu, uu, uu, uu, uu, uu, uu, uu, uu, uu, uu, uu, uu, uu, uu, uu, uu, uu, uu, uu, uu, uu, uu, uu, uu, uu, uu, uu, uu, uu, uu, uu, uu, uu, uu, uu, uu, uu, uu, uu, uu, uu, uu, uu, uu, uu, uu, uu, uu, uu, uu, uu, uu, uu], []⟩⟩]
noncomputable def L2 : LC := ⟨2, ⟨2, [0, 1, 5], []⟩, sh2, outs2, pre2, fn2⟩
noncomputable def H : List LC := [L2]
noncomputable def code (i : Nat) : Code := (loopsOf (bodyOf Tryz.f275)).getD i .skip
theorem step2 (x1 : (List Item)) (x2 : Int) (x3 : Int) : L2.step E H (code 0) (x1, (x2, (x3, ()))) = raw2 x1 x2 x3 := by kernel_rfl
theorem lok2 : LoopOk E H (code 0) L2 := ⟨mu2, fun ⟨x1, x2, x3, ()⟩ hp => rounds_ok (step2 x1 x2 x3) (ok2 x1 x2 x3 hp)⟩
theorem run (x0 : (List Item)) (x1 : Int) : runFn E H Tryz.f275 fs.ps fs.rs (x0, (x1, ())) = raw x0 x1 := by kernel_rfl
theorem env : EnvOk Tryz.prog E := env_cons laws_markText.known (env_nil tys)
theorem loops : ∀ c, Tryz.f275.body = some c → LoopsOk E H c := loops_of (by kernel_rfl) (by kernel_rfl) fun i l h => match i, h with
  | 0, h => Option.some.inj h ▸ lok2
  | n + 1, h => by cases h
theorem sound : Sound Tryz.prog 275 fs := fn_sound env mixed Tryz.func275 H loops fun ⟨x0, x1, ()⟩ hw hp => (run x0 x1).trans (eq x0 x1 hw hp)
theorem known : Seen Tryz.prog 275 fs := ⟨sound, _, Tryz.func275, by kernel_rfl, by kernel_rfl⟩
end laws_heldItemS
namespace laws_heldRowS
noncomputable def fs : FS := ⟨[(.val (.sl 42 tyS111) .f), (.val (.int .i64) .f)], [((.int .i64), .o)], fun x => laws_heldRowS.pre x.1 x.2.1, fun x => ((), ((laws_heldRowS x.1 x.2.1), ()))⟩
noncomputable def E : Env := ⟨theta, [(275, laws_heldItemS.fs)], []⟩
noncomputable def sh2 : ShSt := ⟨[(.one (.dat (.sl 42 tyS111))), ui, uu, uu, uu, ui, uu, uu, uu, uu, uu, uu, uu, uu, uu, uu, uu, uu, uu, uu, uu, uu, uu, uu, uu, uu, uu, uu, uu, uu, uu, uu, uu, uu, uu, uu, uu, uu, uu, uu], []⟩
noncomputable def outs2 : List OutC := [⟨.ret, ⟨0, [4], []⟩, ⟨[uu, uu, uu, uu, ui, uu, uu, uu, uu, uu, uu, uu, uu, uu, uu, uu, uu, uu, uu, uu, uu, uu, uu, uu, uu, uu, uu, uu, uu, uu, uu, uu, uu, uu, uu, uu, uu, uu, uu, uu], []⟩⟩, ⟨(.exit 0), ⟨0, [1], []⟩, ⟨[uu, ui, uu, uu, uu, uu, uu, uu, uu, uu, uu, uu, uu, uu, uu, uu, uu, uu, uu, uu, uu, uu, uu, uu, uu, uu, uu, uu, uu, uu, uu, uu, uu, uu, uu, uu, uu, uu, uu, uu], []⟩⟩]
noncomputable def L2 : LC := ⟨2, ⟨2, [0, 1, 5], []⟩, sh2, outs2, pre2, fn2⟩
noncomputable def H : List LC := [L2]
noncomputable def code (i : Nat) : Code := (loopsOf (bodyOf Tryz.f188)).getD i .skip
theorem step2 (x1 : (List Row)) (x2 : Int) (x3 : Int) : L2.step E H (code 0) (x1, (x2, (x3, ()))) = raw2 x1 x2 x3 := by kernel_rfl
theorem lok2 : LoopOk E H (code 0) L2 := ⟨mu2, fun ⟨x1, x2, x3, ()⟩ hp => rounds_ok (step2 x1 x2 x3) (ok2 x1 x2 x3 hp)⟩
theorem run (x0 : (List Row)) (x1 : Int) : runFn E H Tryz.f188 fs.ps fs.rs (x0, (x1, ())) = raw x0 x1 := by kernel_rfl
theorem env : EnvOk Tryz.prog E := env_cons laws_heldItemS.known (env_nil tys)
theorem loops : ∀ c, Tryz.f188.body = some c → LoopsOk E H c := loops_of (by kernel_rfl) (by kernel_rfl) fun i l h => match i, h with
  | 0, h => Option.some.inj h ▸ lok2
  | n + 1, h => by cases h
theorem sound : Sound Tryz.prog 188 fs := fn_sound env mixed Tryz.func188 H loops fun ⟨x0, x1, ()⟩ hw hp => (run x0 x1).trans (eq x0 x1 hw hp)
theorem known : Seen Tryz.prog 188 fs := ⟨sound, _, Tryz.func188, by kernel_rfl, by kernel_rfl⟩
end laws_heldRowS
namespace laws_heldMarkS
noncomputable def fs : FS := ⟨[(.val (.sl 254 tyS113) .f), (.val (.int .i64) .f)], [((.int .i64), .o)], fun x => laws_heldMarkS.pre x.1 x.2.1, fun x => ((), ((laws_heldMarkS x.1 x.2.1), ()))⟩
noncomputable def E : Env := ⟨theta, [], []⟩
noncomputable def sh2 : ShSt := ⟨[(.one (.dat (.sl 254 tyS113))), ui, uu, uu, uu, ui, uu, uu, uu, uu, uu, uu, uu, uu, uu, uu, uu, uu, uu, uu, uu, uu, uu, uu, uu, uu, uu, uu, uu, uu, uu], []⟩
noncomputable def outs2 : List OutC := [⟨.ret, ⟨0, [4], []⟩, ⟨[uu, uu, uu, uu, ui, uu, uu, uu, uu, uu, uu, uu, uu, uu, uu, uu, uu, uu, uu, uu, uu, uu, uu, uu, uu, uu, uu, uu, uu, uu, uu], []⟩⟩, ⟨(.exit 0), ⟨0, [1], []⟩, ⟨[uu, ui, uu, uu, uu, uu, uu, uu, uu, uu, uu, uu, uu, uu, uu, uu, uu, uu, uu, uu, uu, uu, uu, uu, uu, uu, uu, uu, uu, uu, uu], []⟩⟩]
noncomputable def L2 : LC := ⟨2, ⟨2, [0, 1, 5], []⟩, sh2, outs2, pre2, fn2⟩
noncomputable def H : List LC := [L2]
noncomputable def code (i : Nat) : Code := (loopsOf (bodyOf Tryz.f276)).getD i .skip
theorem step2 (x1 : (List Mark)) (x2 : Int) (x3 : Int) : L2.step E H (code 0) (x1, (x2, (x3, ()))) = raw2 x1 x2 x3 := by kernel_rfl
theorem lok2 : LoopOk E H (code 0) L2 := ⟨mu2, fun ⟨x1, x2, x3, ()⟩ hp => rounds_ok (step2 x1 x2 x3) (ok2 x1 x2 x3 hp)⟩
theorem run (x0 : (List Mark)) (x1 : Int) : runFn E H Tryz.f276 fs.ps fs.rs (x0, (x1, ())) = raw x0 x1 := by kernel_rfl
theorem env : EnvOk Tryz.prog E := env_nil tys
theorem loops : ∀ c, Tryz.f276.body = some c → LoopsOk E H c := loops_of (by kernel_rfl) (by kernel_rfl) fun i l h => match i, h with
  | 0, h => Option.some.inj h ▸ lok2
  | n + 1, h => by cases h
theorem sound : Sound Tryz.prog 276 fs := fn_sound env mixed Tryz.func276 H loops fun ⟨x0, x1, ()⟩ hw hp => (run x0 x1).trans (eq x0 x1 hw hp)
theorem known : Seen Tryz.prog 276 fs := ⟨sound, _, Tryz.func276, by kernel_rfl, by kernel_rfl⟩
end laws_heldMarkS
namespace laws_heldMakerS
noncomputable def fs : FS := ⟨[(.val (.sl 156 tyS15) .f), (.val (.int .i64) .f)], [((.int .i64), .o)], fun x => laws_heldMakerS.pre x.1 x.2.1, fun x => ((), ((laws_heldMakerS x.1 x.2.1), ()))⟩
noncomputable def E : Env := ⟨theta, [(276, laws_heldMarkS.fs)], []⟩
noncomputable def sh2 : ShSt := ⟨[(.one (.dat (.sl 156 tyS15))), ui, uu, uu, uu, ui, uu, uu, uu, uu, uu, uu, uu, uu, uu, uu, uu, uu, uu, uu, uu, uu, uu, uu, uu, uu, uu, uu, uu, uu, uu, uu, uu, uu, uu, uu, uu, uu, uu, uu, uu, uu, uu, uu, uu, uu, uu, uu, uu, uu, uu, uu, uu, uu, uu, uu, uu, uu], []⟩
noncomputable def outs2 : List OutC := [⟨.ret, ⟨0, [4], []⟩, ⟨[uu, uu, uu, uu, ui, uu, uu, uu, uu, uu, uu, uu, uu, uu, uu, uu, uu, uu, uu, uu, uu, uu, uu, uu, uu, uu, uu, uu, uu, uu, uu, uu, uu, uu, uu, uu, uu, uu, uu, uu, uu, uu, uu, uu, uu, uu, uu, uu, uu, uu, uu, uu, uu, uu, uu, uu, uu, uu], []⟩⟩, ⟨(.exit 0), ⟨0, [1], []⟩, ⟨[uu, ui, uu, uu, uu, uu, uu, uu, uu, uu, uu, uu, uu, uu, uu, uu, uu, uu, uu, uu, uu, uu, uu, uu, uu, uu, uu, uu, uu, uu, uu, uu, uu, uu, uu, uu, uu, uu, uu, uu, uu, uu, uu, uu, uu, uu, uu, uu, uu, uu, uu, uu, uu, uu, uu, uu, uu, uu], []⟩⟩]
noncomputable def L2 : LC := ⟨2, ⟨2, [0, 1, 5], []⟩, sh2, outs2, pre2, fn2⟩
noncomputable def H : List LC := [L2]
noncomputable def code (i : Nat) : Code := (loopsOf (bodyOf Tryz.f189)).getD i .skip
theorem step2 (x1 : (List Maker)) (x2 : Int) (x3 : Int) : L2.step E H (code 0) (x1, (x2, (x3, ()))) = raw2 x1 x2 x3 := by kernel_rfl
theorem lok2 : LoopOk E H (code 0) L2 := ⟨mu2, fun ⟨x1, x2, x3, ()⟩ hp => rounds_ok (step2 x1 x2 x3) (ok2 x1 x2 x3 hp)⟩
theorem run (x0 : (List Maker)) (x1 : Int) : runFn E H Tryz.f189 fs.ps fs.rs (x0, (x1, ())) = raw x0 x1 := by kernel_rfl
theorem env : EnvOk Tryz.prog E := env_cons laws_heldMarkS.known (env_nil tys)
theorem loops : ∀ c, Tryz.f189.body = some c → LoopsOk E H c := loops_of (by kernel_rfl) (by kernel_rfl) fun i l h => match i, h with
  | 0, h => Option.some.inj h ▸ lok2
  | n + 1, h => by cases h
theorem sound : Sound Tryz.prog 189 fs := fn_sound env mixed Tryz.func189 H loops fun ⟨x0, x1, ()⟩ hw hp => (run x0 x1).trans (eq x0 x1 hw hp)
theorem known : Seen Tryz.prog 189 fs := ⟨sound, _, Tryz.func189, by kernel_rfl, by kernel_rfl⟩
end laws_heldMakerS
namespace laws_heldIntS
noncomputable def fs : FS := ⟨[(.val (.sl 3 (.int .i64)) .f), (.val (.int .i64) .f)], [((.int .i64), .o)], fun x => laws_heldIntS.pre x.1 x.2.1, fun x => ((), ((laws_heldIntS x.1 x.2.1), ()))⟩
noncomputable def E : Env := ⟨theta, [], []⟩
noncomputable def sh2 : ShSt := ⟨[(.one (.dat (.sl 3 (.int .i64)))), ui, uu, uu, uu, ui, uu, uu, uu, uu, uu, uu, uu, uu, uu, uu, uu, uu, uu, uu, uu], []⟩
noncomputable def outs2 : List OutC := [⟨.ret, ⟨0, [4], []⟩, ⟨[uu, uu, uu, uu, ui, uu, uu, uu, uu, uu, uu, uu, uu, uu, uu, uu, uu, uu, uu, uu, uu], []⟩⟩, ⟨(.exit 0), ⟨0, [1], []⟩, ⟨[uu, ui, uu, uu, uu, uu, uu, uu, uu, uu, uu, uu, uu, uu, uu, uu, uu, uu, uu, uu, uu], []⟩⟩]
noncomputable def L2 : LC := ⟨2, ⟨2, [0, 1, 5], []⟩, sh2, outs2, pre2, fn2⟩
noncomputable def H : List LC := [L2]
noncomputable def code (i : Nat) : Code := (loopsOf (bodyOf Tryz.f154)).getD i .skip
theorem step2 (x1 : (List Int)) (x2 : Int) (x3 : Int) : L2.step E H (code 0) (x1, (x2, (x3, ()))) = raw2 x1 x2 x3 := by kernel_rfl
theorem lok2 : LoopOk E H (code 0) L2 := ⟨mu2, fun ⟨x1, x2, x3, ()⟩ hp => rounds_ok (step2 x1 x2 x3) (ok2 x1 x2 x3 hp)⟩
theorem run (x0 : (List Int)) (x1 : Int) : runFn E H Tryz.f154 fs.ps fs.rs (x0, (x1, ())) = raw x0 x1 := by kernel_rfl
theorem env : EnvOk Tryz.prog E := env_nil tys
theorem loops : ∀ c, Tryz.f154.body = some c → LoopsOk E H c := loops_of (by kernel_rfl) (by kernel_rfl) fun i l h => match i, h with
  | 0, h => Option.some.inj h ▸ lok2
  | n + 1, h => by cases h
theorem sound : Sound Tryz.prog 154 fs := fn_sound env mixed Tryz.func154 H loops fun ⟨x0, x1, ()⟩ hw hp => (run x0 x1).trans (eq x0 x1 hw hp)
theorem known : Seen Tryz.prog 154 fs := ⟨sound, _, Tryz.func154, by kernel_rfl, by kernel_rfl⟩
end laws_heldIntS
namespace laws_heldGroupS
noncomputable def fs : FS := ⟨[(.val (.sl 159 tyS18) .f), (.val (.int .i64) .f)], [((.int .i64), .o)], fun x => laws_heldGroupS.pre x.1 x.2.1, fun x => ((), ((laws_heldGroupS x.1 x.2.1), ()))⟩
noncomputable def E : Env := ⟨theta, [(154, laws_heldIntS.fs)], []⟩
noncomputable def sh2 : ShSt := ⟨[(.one (.dat (.sl 159 tyS18))), ui, uu, uu, uu, ui, uu, uu, uu, uu, uu, uu, uu, uu, uu, uu, uu, uu, uu, uu, uu, uu, uu, uu, uu, uu, uu, uu, uu, uu, uu, uu, uu, uu, uu, uu, uu, uu, uu, uu, uu, uu, uu, uu, uu, uu, uu, uu, uu], []⟩
noncomputable def outs2 : List OutC := [⟨.ret, ⟨0, [4], []⟩, ⟨[uu, uu, uu, uu, ui, uu, uu, uu, uu, uu, uu, uu, uu, uu, uu, uu, uu, uu, uu, uu, uu, uu, uu, uu, uu, uu, uu, uu, uu, uu, uu, uu, uu, uu, uu, uu, uu, uu, uu, uu, uu, uu, uu, uu, uu, uu, uu, uu, uu], []⟩⟩, ⟨(.exit 0), ⟨0, [1], []⟩, ⟨[uu, ui, uu, uu, uu, uu, uu, uu, uu, uu, uu, uu, uu, uu, uu, uu, uu, uu, uu, uu, uu, uu, uu, uu, uu, uu, uu, uu, uu, uu, uu, uu, uu, uu, uu, uu, uu, uu, uu, uu, uu, uu, uu, uu, uu, uu, uu, uu, uu], []⟩⟩]
noncomputable def L2 : LC := ⟨2, ⟨2, [0, 1, 5], []⟩, sh2, outs2, pre2, fn2⟩
noncomputable def H : List LC := [L2]
noncomputable def code (i : Nat) : Code := (loopsOf (bodyOf Tryz.f190)).getD i .skip
theorem step2 (x1 : (List Group)) (x2 : Int) (x3 : Int) : L2.step E H (code 0) (x1, (x2, (x3, ()))) = raw2 x1 x2 x3 := by kernel_rfl
theorem lok2 : LoopOk E H (code 0) L2 := ⟨mu2, fun ⟨x1, x2, x3, ()⟩ hp => rounds_ok (step2 x1 x2 x3) (ok2 x1 x2 x3 hp)⟩
theorem run (x0 : (List Group)) (x1 : Int) : runFn E H Tryz.f190 fs.ps fs.rs (x0, (x1, ())) = raw x0 x1 := by kernel_rfl
theorem env : EnvOk Tryz.prog E := env_cons laws_heldIntS.known (env_nil tys)
theorem loops : ∀ c, Tryz.f190.body = some c → LoopsOk E H c := loops_of (by kernel_rfl) (by kernel_rfl) fun i l h => match i, h with
  | 0, h => Option.some.inj h ▸ lok2
  | n + 1, h => by cases h
theorem sound : Sound Tryz.prog 190 fs := fn_sound env mixed Tryz.func190 H loops fun ⟨x0, x1, ()⟩ hw hp => (run x0 x1).trans (eq x0 x1 hw hp)
theorem known : Seen Tryz.prog 190 fs := ⟨sound, _, Tryz.func190, by kernel_rfl, by kernel_rfl⟩
end laws_heldGroupS
namespace laws_heldAnswerS
noncomputable def fs : FS := ⟨[(.val (.sl 48 tyS19) .f), (.val (.int .i64) .f)], [((.int .i64), .o)], fun x => laws_heldAnswerS.pre x.1 x.2.1, fun x => ((), ((laws_heldAnswerS x.1 x.2.1), ()))⟩
noncomputable def E : Env := ⟨theta, [(184, laws_markText.fs)], []⟩
noncomputable def sh2 : ShSt := ⟨[(.one (.dat (.sl 48 tyS19))), ui, uu, uu, uu, ui, uu, uu, uu, uu, uu, uu, uu, uu, uu, uu, uu, uu, uu, uu, uu, uu, uu, uu, uu, uu, uu, uu, uu, uu, uu, uu, uu, uu, uu, uu, uu, uu, uu, uu, uu, uu, uu, uu, uu, uu, uu, uu, uu, uu, uu], []⟩
noncomputable def outs2 : List OutC := [⟨.ret, ⟨0, [4], []⟩, ⟨[uu, uu, uu, uu, ui, uu, uu, uu, uu, uu, uu, uu, uu, uu, uu, uu, uu, uu, uu, uu, uu, uu, uu, uu, uu, uu, uu, uu, uu, uu, uu, uu, uu, uu, uu, uu, uu, uu, uu, uu, uu, uu, uu, uu, uu, uu, uu, uu, uu, uu, uu], []⟩⟩, ⟨(.exit 0), ⟨0, [1], []⟩, ⟨[uu, ui, uu, uu, uu, uu, uu, uu, uu, uu, uu, uu, uu, uu, uu, uu, uu, uu, uu, uu, uu, uu, uu, uu, uu, uu, uu, uu, uu, uu, uu, uu, uu, uu, uu, uu, uu, uu, uu, uu, uu, uu, uu, uu, uu, uu, uu, uu, uu, uu, uu], []⟩⟩]
noncomputable def L2 : LC := ⟨2, ⟨2, [0, 1, 5], []⟩, sh2, outs2, pre2, fn2⟩
noncomputable def H : List LC := [L2]
noncomputable def code (i : Nat) : Code := (loopsOf (bodyOf Tryz.f66)).getD i .skip
theorem step2 (x1 : (List Answer)) (x2 : Int) (x3 : Int) : L2.step E H (code 0) (x1, (x2, (x3, ()))) = raw2 x1 x2 x3 := by kernel_rfl
theorem lok2 : LoopOk E H (code 0) L2 := ⟨mu2, fun ⟨x1, x2, x3, ()⟩ hp => rounds_ok (step2 x1 x2 x3) (ok2 x1 x2 x3 hp)⟩
theorem run (x0 : (List Answer)) (x1 : Int) : runFn E H Tryz.f66 fs.ps fs.rs (x0, (x1, ())) = raw x0 x1 := by kernel_rfl
theorem env : EnvOk Tryz.prog E := env_cons laws_markText.known (env_nil tys)
theorem loops : ∀ c, Tryz.f66.body = some c → LoopsOk E H c := loops_of (by kernel_rfl) (by kernel_rfl) fun i l h => match i, h with
  | 0, h => Option.some.inj h ▸ lok2
  | n + 1, h => by cases h
theorem sound : Sound Tryz.prog 66 fs := fn_sound env mixed Tryz.func66 H loops fun ⟨x0, x1, ()⟩ hw hp => (run x0 x1).trans (eq x0 x1 hw hp)
theorem known : Seen Tryz.prog 66 fs := ⟨sound, _, Tryz.func66, by kernel_rfl, by kernel_rfl⟩
end laws_heldAnswerS
namespace laws_heldKeep
noncomputable def fs : FS := ⟨[(.val tyS11 .f), (.val (.int .i64) .f)], [((.int .i64), .o)], fun x => laws_heldKeep.pre x.1 x.2.1, fun x => ((), ((laws_heldKeep x.1 x.2.1), ()))⟩
noncomputable def E : Env := ⟨theta, [(188, laws_heldRowS.fs), (189, laws_heldMakerS.fs), (154, laws_heldIntS.fs), (190, laws_heldGroupS.fs), (66, laws_heldAnswerS.fs)], []⟩
noncomputable def H : List LC := []
noncomputable def code (i : Nat) : Code := (loopsOf (bodyOf Tryz.f65)).getD i .skip
theorem run (x0 : ((List Row) × ((List Maker) × ((List Group) × (Int × ((List Int) × ((List Answer) × Unit))))))) (x1 : Int) : runFn E H Tryz.f65 fs.ps fs.rs (x0, (x1, ())) = raw x0 x1 := by kernel_rfl
theorem env : EnvOk Tryz.prog E := env_cons laws_heldRowS.known (env_cons laws_heldMakerS.known (env_cons laws_heldIntS.known (env_cons laws_heldGroupS.known (env_cons laws_heldAnswerS.known (env_nil tys)))))
theorem loops : ∀ c, Tryz.f65.body = some c → LoopsOk E H c := loops_none (by kernel_rfl)
theorem sound : Sound Tryz.prog 65 fs := fn_sound env mixed Tryz.func65 H loops fun ⟨x0, x1, ()⟩ hw hp => (run x0 x1).trans (eq x0 x1 hw hp)
theorem known : Seen Tryz.prog 65 fs := ⟨sound, _, Tryz.func65, by kernel_rfl, by kernel_rfl⟩
end laws_heldKeep
namespace laws_heldHard
noncomputable def fs : FS := ⟨[(.val (.pair (.int .i64) (.pair (.int .i64) (.pair tyS114 (.pair tyS11 .unit)))) .f), (.val (.int .i64) .f)], [((.int .i64), .o)], fun x => laws_heldHard.pre x.1 x.2.1, fun x => ((), ((laws_heldHard x.1 x.2.1), ()))⟩
noncomputable def E : Env := ⟨theta, [(193, laws_heldLog.fs), (65, laws_heldKeep.fs)], []⟩
noncomputable def H : List LC := []
noncomputable def code (i : Nat) : Code := (loopsOf (bodyOf Tryz.f74)).getD i .skip
theorem run (x0 : (Int × (Int × (Log × (((List Row) × ((List Maker) × ((List Group) × (Int × ((List Int) × ((List Answer) × Unit)))))) × Unit))))) (x1 : Int) : runFn E H Tryz.f74 fs.ps fs.rs (x0, (x1, ())) = raw x0 x1 := by kernel_rfl
theorem env : EnvOk Tryz.prog E := env_cons laws_heldLog.known (env_cons laws_heldKeep.known (env_nil tys))
theorem loops : ∀ c, Tryz.f74.body = some c → LoopsOk E H c := loops_none (by kernel_rfl)
theorem sound : Sound Tryz.prog 74 fs := fn_sound env mixed Tryz.func74 H loops fun ⟨x0, x1, ()⟩ hw hp => (run x0 x1).trans (eq x0 x1 hw hp)
theorem known : Seen Tryz.prog 74 fs := ⟨sound, _, Tryz.func74, by kernel_rfl, by kernel_rfl⟩
end laws_heldHard
namespace laws_heldBoolS
noncomputable def fs : FS := ⟨[(.val (.sl 4 .bool) .f), (.val (.int .i64) .f)], [((.int .i64), .o)], fun x => laws_heldBoolS.pre x.1 x.2.1, fun x => ((), ((laws_heldBoolS x.1 x.2.1), ()))⟩
noncomputable def E : Env := ⟨theta, [], []⟩
noncomputable def sh2 : ShSt := ⟨[(.one (.dat (.sl 4 .bool))), ui, uu, uu, uu, ui, uu, uu, uu, uu, uu, uu, uu, uu, uu, uu, uu, uu, uu, uu, uu, uu, uu], []⟩
noncomputable def outs2 : List OutC := [⟨.ret, ⟨0, [4], []⟩, ⟨[uu, uu, uu, uu, ui, uu, uu, uu, uu, uu, uu, uu, uu, uu, uu, uu, uu, uu, uu, uu, uu, uu, uu], []⟩⟩, ⟨(.exit 0), ⟨0, [1], []⟩, ⟨[uu, ui, uu, uu, uu, uu, uu, uu, uu, uu, uu, uu, uu, uu, uu, uu, uu, uu, uu, uu, uu, uu, uu], []⟩⟩]
noncomputable def L2 : LC := ⟨2, ⟨2, [0, 1, 5], []⟩, sh2, outs2, pre2, fn2⟩
noncomputable def H : List LC := [L2]
noncomputable def code (i : Nat) : Code := (loopsOf (bodyOf Tryz.f153)).getD i .skip
theorem step2 (x1 : (List Bool)) (x2 : Int) (x3 : Int) : L2.step E H (code 0) (x1, (x2, (x3, ()))) = raw2 x1 x2 x3 := by kernel_rfl
theorem lok2 : LoopOk E H (code 0) L2 := ⟨mu2, fun ⟨x1, x2, x3, ()⟩ hp => rounds_ok (step2 x1 x2 x3) (ok2 x1 x2 x3 hp)⟩
theorem run (x0 : (List Bool)) (x1 : Int) : runFn E H Tryz.f153 fs.ps fs.rs (x0, (x1, ())) = raw x0 x1 := by kernel_rfl
theorem env : EnvOk Tryz.prog E := env_nil tys
theorem loops : ∀ c, Tryz.f153.body = some c → LoopsOk E H c := loops_of (by kernel_rfl) (by kernel_rfl) fun i l h => match i, h with
  | 0, h => Option.some.inj h ▸ lok2
  | n + 1, h => by cases h
theorem sound : Sound Tryz.prog 153 fs := fn_sound env mixed Tryz.func153 H loops fun ⟨x0, x1, ()⟩ hw hp => (run x0 x1).trans (eq x0 x1 hw hp)
theorem known : Seen Tryz.prog 153 fs := ⟨sound, _, Tryz.func153, by kernel_rfl, by kernel_rfl⟩
end laws_heldBoolS
namespace laws_heldByteS
noncomputable def fs : FS := ⟨[(.val (.sl 5 (.int .u8)) .f), (.val (.int .i64) .f)], [((.int .i64), .o)], fun x => laws_heldByteS.pre x.1 x.2.1, fun x => ((), ((laws_heldByteS x.1 x.2.1), ()))⟩
noncomputable def E : Env := ⟨theta, [], []⟩
noncomputable def sh2 : ShSt := ⟨[(.one (.dat (.sl 5 (.int .u8)))), ui, uu, uu, uu, ui, uu, uu, uu, uu, uu, uu, uu, uu, uu, uu, uu, uu, uu, uu, uu, uu], []⟩
noncomputable def outs2 : List OutC := [⟨.ret, ⟨0, [4], []⟩, ⟨[uu, uu, uu, uu, ui, uu, uu, uu, uu, uu, uu, uu, uu, uu, uu, uu, uu, uu, uu, uu, uu, uu], []⟩⟩, ⟨(.exit 0), ⟨0, [1], []⟩, ⟨[uu, ui, uu, uu, uu, uu, uu, uu, uu, uu, uu, uu, uu, uu, uu, uu, uu, uu, uu, uu, uu, uu], []⟩⟩]
noncomputable def L2 : LC := ⟨2, ⟨2, [0, 1, 5], []⟩, sh2, outs2, pre2, fn2⟩
noncomputable def H : List LC := [L2]
noncomputable def code (i : Nat) : Code := (loopsOf (bodyOf Tryz.f250)).getD i .skip
theorem step2 (x1 : (List Int)) (x2 : Int) (x3 : Int) : L2.step E H (code 0) (x1, (x2, (x3, ()))) = raw2 x1 x2 x3 := by kernel_rfl
theorem lok2 : LoopOk E H (code 0) L2 := ⟨mu2, fun ⟨x1, x2, x3, ()⟩ hp => rounds_ok (step2 x1 x2 x3) (ok2 x1 x2 x3 hp)⟩
theorem run (x0 : (List Int)) (x1 : Int) : runFn E H Tryz.f250 fs.ps fs.rs (x0, (x1, ())) = raw x0 x1 := by kernel_rfl
theorem env : EnvOk Tryz.prog E := env_nil tys
theorem loops : ∀ c, Tryz.f250.body = some c → LoopsOk E H c := loops_of (by kernel_rfl) (by kernel_rfl) fun i l h => match i, h with
  | 0, h => Option.some.inj h ▸ lok2
  | n + 1, h => by cases h
theorem sound : Sound Tryz.prog 250 fs := fn_sound env mixed Tryz.func250 H loops fun ⟨x0, x1, ()⟩ hw hp => (run x0 x1).trans (eq x0 x1 hw hp)
theorem known : Seen Tryz.prog 250 fs := ⟨sound, _, Tryz.func250, by kernel_rfl, by kernel_rfl⟩
end laws_heldByteS
namespace laws_heldDisk
noncomputable def fs : FS := ⟨[(.val (.pair (.sl 5 (.int .u8)) (.pair (.int .i64) .unit)) .f), (.val (.int .i64) .f)], [((.int .i64), .o)], fun x => laws_heldDisk.pre x.1 x.2.1, fun x => ((), ((laws_heldDisk x.1 x.2.1), ()))⟩
noncomputable def E : Env := ⟨theta, [(250, laws_heldByteS.fs)], []⟩
noncomputable def H : List LC := []
noncomputable def code (i : Nat) : Code := (loopsOf (bodyOf Tryz.f155)).getD i .skip
theorem run (x0 : Disk) (x1 : Int) : runFn E H Tryz.f155 fs.ps fs.rs (x0, (x1, ())) = raw x0 x1 := by kernel_rfl
theorem env : EnvOk Tryz.prog E := env_cons laws_heldByteS.known (env_nil tys)
theorem loops : ∀ c, Tryz.f155.body = some c → LoopsOk E H c := loops_none (by kernel_rfl)
theorem sound : Sound Tryz.prog 155 fs := fn_sound env mixed Tryz.func155 H loops fun ⟨x0, x1, ()⟩ hw hp => (run x0 x1).trans (eq x0 x1 hw hp)
theorem known : Seen Tryz.prog 155 fs := ⟨sound, _, Tryz.func155, by kernel_rfl, by kernel_rfl⟩
end laws_heldDisk
namespace laws_heldRpcS
noncomputable def fs : FS := ⟨[(.val (.sl 113 tyS14) .f), (.val (.int .i64) .f)], [((.int .i64), .o)], fun x => laws_heldRpcS.pre x.1 x.2.1, fun x => ((), ((laws_heldRpcS x.1 x.2.1), ()))⟩
noncomputable def E : Env := ⟨theta, [(184, laws_markText.fs), (251, laws_heldEntryS.fs)], []⟩
noncomputable def sh2 : ShSt := ⟨[(.one (.dat (.sl 113 tyS14))), ui, uu, uu, uu, ui, uu, uu, uu, uu, uu, uu, uu, uu, uu, uu, uu, uu, uu, uu, uu, uu, uu, uu, uu, uu, uu, uu, uu, uu, uu, uu, uu, uu, uu, uu, uu, uu, uu, uu, uu, uu, uu, uu, uu, uu, uu, uu, uu, uu, uu, uu, uu, uu, uu, uu, uu, uu, uu, uu, uu, uu, uu, uu, uu, uu, uu, uu, uu, uu, uu, uu, uu, uu, uu, uu, uu, uu, uu, uu, uu, uu, uu, uu, uu, uu, uu, uu, uu, uu, uu, uu, uu, uu, uu, uu, uu, uu, uu, uu, uu, uu, uu, uu, uu, uu], []⟩
noncomputable def outs2 : List OutC := [⟨.ret, ⟨0, [4], []⟩, ⟨[uu, uu, uu, uu, ui, uu, uu, uu, uu, uu, uu, uu, uu, uu, uu, uu, uu, uu, uu, uu, uu, uu, uu, uu, uu, uu, uu, uu, uu, uu, uu, uu, uu, uu, uu, uu, uu, uu, uu, uu, uu, uu, uu, uu, uu, uu, uu, uu, uu, uu, uu, uu, uu, uu, uu, uu, uu, uu, uu, uu, uu, uu, uu, uu, uu, uu, uu, uu, uu, uu, uu, uu, uu, uu, uu, uu, uu, uu, uu, uu, uu, uu, uu, uu, uu, uu, uu, uu, uu, uu, uu, uu, uu, uu, uu, uu, uu, uu, uu, uu, uu, uu, uu, uu, uu, uu], []⟩⟩, ⟨(.exit 0), ⟨0, [1], []⟩, ⟨[uu, ui, uu, uu, uu, uu, uu, uu, uu, uu, uu, uu, uu, uu, uu, uu, uu, uu, uu, uu, uu, uu, uu, uu, uu, uu, uu, uu, uu, uu, uu, uu, uu, uu, uu, uu, uu, uu, uu, uu, uu, uu, uu, uu, uu, uu, uu, uu, uu, uu, uu, uu, uu, uu, uu, uu, uu, uu, uu, uu, uu, uu, uu, uu, uu, uu, uu, uu, uu, uu, uu, uu, uu, uu, uu, uu, uu, uu, uu, uu, uu, uu, uu, uu, uu, uu, uu, uu, uu, uu, uu, uu, uu, uu, uu, uu, uu, uu, uu, uu, uu, uu, uu, uu, uu, uu], []⟩⟩]
noncomputable def L2 : LC := ⟨2, ⟨2, [0, 1, 5], []⟩, sh2, outs2, pre2, fn2⟩
noncomputable def H : List LC := [L2]
noncomputable def code (i : Nat) : Code := (loopsOf (bodyOf Tryz.f156)).getD i .skip
theorem step2 (x1 : (List (Int × (Int × (Int × (Int × (Int × (Int × (Int × ((List Entry) × (Bool × ((List UInt8) × Unit)))))))))))) (x2 : Int) (x3 : Int) : L2.step E H (code 0) (x1, (x2, (x3, ()))) = raw2 x1 x2 x3 := by kernel_rfl
theorem lok2 : LoopOk E H (code 0) L2 := ⟨mu2, fun ⟨x1, x2, x3, ()⟩ hp => rounds_ok (step2 x1 x2 x3) (ok2 x1 x2 x3 hp)⟩
theorem run (x0 : (List (Int × (Int × (Int × (Int × (Int × (Int × (Int × ((List Entry) × (Bool × ((List UInt8) × Unit)))))))))))) (x1 : Int) : runFn E H Tryz.f156 fs.ps fs.rs (x0, (x1, ())) = raw x0 x1 := by kernel_rfl
theorem env : EnvOk Tryz.prog E := env_cons laws_markText.known (env_cons laws_heldEntryS.known (env_nil tys))
theorem loops : ∀ c, Tryz.f156.body = some c → LoopsOk E H c := loops_of (by kernel_rfl) (by kernel_rfl) fun i l h => match i, h with
  | 0, h => Option.some.inj h ▸ lok2
  | n + 1, h => by cases h
theorem sound : Sound Tryz.prog 156 fs := fn_sound env mixed Tryz.func156 H loops fun ⟨x0, x1, ()⟩ hw hp => (run x0 x1).trans (eq x0 x1 hw hp)
theorem known : Seen Tryz.prog 156 fs := ⟨sound, _, Tryz.func156, by kernel_rfl, by kernel_rfl⟩
end laws_heldRpcS
namespace laws_heldPeer
noncomputable def fs : FS := ⟨[(.val tyS17 .f), (.val (.int .i64) .f)], [((.int .i64), .o)], fun x => laws_heldPeer.pre x.1 x.2.1, fun x => ((), ((laws_heldPeer x.1 x.2.1), ()))⟩
noncomputable def E : Env := ⟨theta, [(154, laws_heldIntS.fs), (65, laws_heldKeep.fs), (74, laws_heldHard.fs), (153, laws_heldBoolS.fs), (155, laws_heldDisk.fs), (156, laws_heldRpcS.fs)], []⟩
noncomputable def H : List LC := []
noncomputable def code (i : Nat) : Code := (loopsOf (bodyOf Tryz.f48)).getD i .skip
theorem run (x0 : (Int × ((Int × (Int × (Log × (((List Row) × ((List Maker) × ((List Group) × (Int × ((List Int) × ((List Answer) × Unit)))))) × Unit)))) × (Int × ((List Bool) × ((List Int) × ((List Int) × (Int × (((List Row) × ((List Maker) × ((List Group) × (Int × ((List Int) × ((List Answer) × Unit)))))) × (Disk × ((List (Int × (Int × (Int × (Int × (Int × (Int × (Int × ((List Entry) × (Bool × ((List UInt8) × Unit))))))))))) × Unit))))))))))) (x1 : Int) : runFn E H Tryz.f48 fs.ps fs.rs (x0, (x1, ())) = raw x0 x1 := by kernel_rfl
theorem env : EnvOk Tryz.prog E := env_cons laws_heldIntS.known (env_cons laws_heldKeep.known (env_cons laws_heldHard.known (env_cons laws_heldBoolS.known (env_cons laws_heldDisk.known (env_cons laws_heldRpcS.known (env_nil tys))))))
theorem loops : ∀ c, Tryz.f48.body = some c → LoopsOk E H c := loops_none (by kernel_rfl)
theorem sound : Sound Tryz.prog 48 fs := fn_sound env mixed Tryz.func48 H loops fun ⟨x0, x1, ()⟩ hw hp => (run x0 x1).trans (eq x0 x1 hw hp)
theorem known : Seen Tryz.prog 48 fs := ⟨sound, _, Tryz.func48, by kernel_rfl, by kernel_rfl⟩
end laws_heldPeer
namespace laws_FnExactTell
noncomputable def fs : FS := ⟨[(.val tyS112 .f), (.val tyS110 .f)], [(.bool, .o)], fun _ => true, fun x => ((), ((laws_FnExactTell x.1 x.2.1), ()))⟩
noncomputable def E : Env := ⟨theta, [(50, laws_szRpc.fs), (49, laws_szPeer.fs), (51, spec_Tell.fs), (55, laws_eqRpc.fs), (56, laws_markRpc.fs), (47, laws_markPeer.fs), (53, laws_toRpc.fs), (52, laws_toPeer.fs), (54, impl_Tell.fs), (46, laws_eqPeer.fs), (48, laws_heldPeer.fs)], []⟩
noncomputable def H : List LC := []
noncomputable def code (i : Nat) : Code := (loopsOf (bodyOf Tryz.f8)).getD i .skip
theorem run (x0 : (Int × ((Int × (Int × (Log × (((List Row) × ((List Maker) × ((List Group) × (Int × ((List Int) × ((List Answer) × Unit)))))) × Unit)))) × (Int × ((List Bool) × ((List Int) × ((List Int) × (Int × (((List Row) × ((List Maker) × ((List Group) × (Int × ((List Int) × ((List Answer) × Unit)))))) × (Disk × ((List (Int × (Int × (Int × (Int × (Int × (Int × (Int × ((List Entry) × (Bool × ((List UInt8) × Unit))))))))))) × Unit))))))))))) (x1 : (Int × (Int × (Int × (Int × (Int × (Int × (Int × ((List Entry) × (Bool × ((List UInt8) × Unit))))))))))) : runFn E H Tryz.f8 fs.ps fs.rs (x0, (x1, ())) = raw x0 x1 := by kernel_rfl
theorem env : EnvOk Tryz.prog E := env_cons laws_szRpc.known (env_cons laws_szPeer.known (env_cons spec_Tell.known (env_cons laws_eqRpc.known (env_cons laws_markRpc.known (env_cons laws_markPeer.known (env_cons laws_toRpc.known (env_cons laws_toPeer.known (env_cons impl_Tell.known (env_cons laws_eqPeer.known (env_cons laws_heldPeer.known (env_nil tys)))))))))))
theorem loops : ∀ c, Tryz.f8.body = some c → LoopsOk E H c := loops_none (by kernel_rfl)
theorem sound : Sound Tryz.prog 8 fs := fn_sound env mixed Tryz.func8 H loops fun ⟨x0, x1, ()⟩ hw _ => (run x0 x1).trans (eq x0 x1 hw)
theorem known : Seen Tryz.prog 8 fs := ⟨sound, _, Tryz.func8, by kernel_rfl, by kernel_rfl⟩
end laws_FnExactTell
end Go.Aw.Pl
