/-
  These laws hold: FnExactDiskOk, FnExactSync, FnExactAppend, FnExactFall: each answers true for every input, and nothing of its arguments is changed. Conditions: those of the given statements alone.
  Printed by a program of the proof's author: what each function does, by the plain machine (the texts Aw.. and Ax..), and the rows at the end.
-/
import Derived.Test.YtdiiffflfoadhaaRows
import Derived.JoinedOf
import Derived.Test.YtdiiffflfoadhaaPlC
namespace Go.Aw.Pl
open Go Go.Aw Go.Proofs
set_option linter.unusedVariables false
noncomputable def theta : List (TypeId × Ty) := [(1, .op),
  (2, (.int .i64)),
  (3, (.int .i64)),
  (4, .bool),
  (5, (.int .u8)),
  (6, (.int .u8)),
  (7, (.pair (.int .i64) (.pair (.int .i64) (.pair .bool (.pair (.int .u8) .unit))))),
  (8, (.pair (.int .i64) (.pair (.int .i64) (.pair .bool (.pair (.int .u8) .unit))))),
  (9, .str),
  (10, .str),
  (11, .str),
  (12, (.int .u64)),
  (15, .op),
  (16, .op),
  (17, .op),
  (21, (.int .i32)),
  (22, (.sl 5 (.int .u8))),
  (23, .op),
  (24, .op),
  (25, .op),
  (26, .op),
  (27, (.pair (.sl 5 (.int .u8)) (.pair (.int .i64) .unit))),
  (28, (.pair (.sl 5 (.int .u8)) (.pair (.int .i64) .unit))),
  (29, .op),
  (30, .op),
  (31, (.pair (.sl 5 (.int .u8)) (.pair (.int .i64) .unit))),
  (32, .op),
  (33, .op),
  (34, .op),
  (35, .op),
  (36, .op),
  (38, .op),
  (39, .op),
  (40, .op),
  (41, .op),
  (42, .op),
  (43, .op),
  (44, .op),
  (45, .op),
  (51, .op),
  (52, (.int .u32)),
  (53, (.int .u8)),
  (54, (.int .u8)),
  (55, .op),
  (56, .op),
  (57, (.int .i32)),
  (58, (.int .i32))]
theorem tys : ∀ t T, find theta t = some T → tyF Try.prog T (.t t) = true := tys_of (by kernel_rfl)
theorem mixed : Try.prog.follows .mixedOrders = true := by kernel_rfl
namespace impl_within
noncomputable def fs : FS := ⟨[(.val (.int .i64) .f), (.val (.int .i64) .f), (.val (.int .i64) .f)], [(.bool, .o)], fun _ => true, fun x => ((), ((impl_within x.1 x.2.1 x.2.2.1), ()))⟩
noncomputable def E : Env := ⟨theta, []⟩
noncomputable def H : List LC := []
noncomputable def code (i : Nat) : Code := (loopsOf (bodyOf Try.f28)).getD i .skip
theorem run (x0 : Int) (x1 : Int) (x2 : Int) : runFn E H Try.f28 fs.ps fs.rs (x0, (x1, (x2, ()))) = raw x0 x1 x2 := by kernel_rfl
theorem env : EnvOk Try.prog E := env_nil tys
theorem loops : ∀ c, Try.f28.body = some c → LoopsOk E H c := loops_none (by kernel_rfl)
theorem sound : Sound Try.prog 28 fs := fn_sound env mixed Try.func28 H loops fun ⟨x0, x1, x2, ()⟩ hw _ => (run x0 x1 x2).trans (eq x0 x1 x2 hw)
theorem known : Seen Try.prog 28 fs := ⟨sound, _, Try.func28, by kernel_rfl, by kernel_rfl⟩
end impl_within
namespace spec_l1In
noncomputable def fs : FS := ⟨[(.val (.int .i64) .f), (.val (.int .i64) .f), (.val (.int .i64) .f)], [(.bool, .o)], fun _ => true, fun x => ((), ((spec_l1In x.1 x.2.1 x.2.2.1), ()))⟩
noncomputable def E : Env := ⟨theta, []⟩
noncomputable def H : List LC := []
noncomputable def code (i : Nat) : Code := (loopsOf (bodyOf Try.f27)).getD i .skip
theorem run (x0 : Int) (x1 : Int) (x2 : Int) : runFn E H Try.f27 fs.ps fs.rs (x0, (x1, (x2, ()))) = raw x0 x1 x2 := by kernel_rfl
theorem env : EnvOk Try.prog E := env_nil tys
theorem loops : ∀ c, Try.f27.body = some c → LoopsOk E H c := loops_none (by kernel_rfl)
theorem sound : Sound Try.prog 27 fs := fn_sound env mixed Try.func27 H loops fun ⟨x0, x1, x2, ()⟩ hw _ => (run x0 x1 x2).trans (eq x0 x1 x2 hw)
theorem known : Seen Try.prog 27 fs := ⟨sound, _, Try.func27, by kernel_rfl, by kernel_rfl⟩
end spec_l1In
namespace spec_l1Min
noncomputable def fs : FS := ⟨[(.val (.int .i64) .f), (.val (.int .i64) .f)], [((.int .i64), .o)], fun _ => true, fun x => ((), ((spec_l1Min x.1 x.2.1), ()))⟩
noncomputable def E : Env := ⟨theta, []⟩
noncomputable def H : List LC := []
noncomputable def code (i : Nat) : Code := (loopsOf (bodyOf Try.f33)).getD i .skip
theorem run (x0 : Int) (x1 : Int) : runFn E H Try.f33 fs.ps fs.rs (x0, (x1, ())) = raw x0 x1 := by kernel_rfl
theorem env : EnvOk Try.prog E := env_nil tys
theorem loops : ∀ c, Try.f33.body = some c → LoopsOk E H c := loops_none (by kernel_rfl)
theorem sound : Sound Try.prog 33 fs := fn_sound env mixed Try.func33 H loops fun ⟨x0, x1, ()⟩ hw _ => (run x0 x1).trans (eq x0 x1 hw)
theorem known : Seen Try.prog 33 fs := ⟨sound, _, Try.func33, by kernel_rfl, by kernel_rfl⟩
end spec_l1Min
namespace spec_l1Max
noncomputable def fs : FS := ⟨[(.val (.int .i64) .f), (.val (.int .i64) .f)], [((.int .i64), .o)], fun _ => true, fun x => ((), ((spec_l1Max x.1 x.2.1), ()))⟩
noncomputable def E : Env := ⟨theta, []⟩
noncomputable def H : List LC := []
noncomputable def code (i : Nat) : Code := (loopsOf (bodyOf Try.f32)).getD i .skip
theorem run (x0 : Int) (x1 : Int) : runFn E H Try.f32 fs.ps fs.rs (x0, (x1, ())) = raw x0 x1 := by kernel_rfl
theorem env : EnvOk Try.prog E := env_nil tys
theorem loops : ∀ c, Try.f32.body = some c → LoopsOk E H c := loops_none (by kernel_rfl)
theorem sound : Sound Try.prog 32 fs := fn_sound env mixed Try.func32 H loops fun ⟨x0, x1, ()⟩ hw _ => (run x0 x1).trans (eq x0 x1 hw)
theorem known : Seen Try.prog 32 fs := ⟨sound, _, Try.func32, by kernel_rfl, by kernel_rfl⟩
end spec_l1Max
namespace laws_szByteS
noncomputable def fs : FS := ⟨[(.val (.sl 5 (.int .u8)) .f), (.val (.int .i64) .f)], [((.int .i64), .o)], fun _ => true, fun x => ((), ((laws_szByteS x.1 x.2.1), ()))⟩
noncomputable def E : Env := ⟨theta, []⟩
noncomputable def H : List LC := []
noncomputable def code (i : Nat) : Code := (loopsOf (bodyOf Try.f26)).getD i .skip
theorem run (x0 : (List Int)) (x1 : Int) : runFn E H Try.f26 fs.ps fs.rs (x0, (x1, ())) = raw x0 x1 := by kernel_rfl
theorem env : EnvOk Try.prog E := env_nil tys
theorem loops : ∀ c, Try.f26.body = some c → LoopsOk E H c := loops_none (by kernel_rfl)
theorem sound : Sound Try.prog 26 fs := fn_sound env mixed Try.func26 H loops fun ⟨x0, x1, ()⟩ hw _ => (run x0 x1).trans (eq x0 x1 hw)
theorem known : Seen Try.prog 26 fs := ⟨sound, _, Try.func26, by kernel_rfl, by kernel_rfl⟩
end laws_szByteS
namespace laws_szDisk
noncomputable def fs : FS := ⟨[(.val (.pair (.sl 5 (.int .u8)) (.pair (.int .i64) .unit)) .f), (.val (.int .i64) .f)], [((.int .i64), .o)], fun _ => true, fun x => ((), ((laws_szDisk x.1 x.2.1), ()))⟩
noncomputable def E : Env := ⟨theta, [(26, laws_szByteS.fs)]⟩
noncomputable def H : List LC := []
noncomputable def code (i : Nat) : Code := (loopsOf (bodyOf Try.f12)).getD i .skip
theorem run (x0 : ((List Int) × (Int × Unit))) (x1 : Int) : runFn E H Try.f12 fs.ps fs.rs (x0, (x1, ())) = raw x0 x1 := by kernel_rfl
theorem env : EnvOk Try.prog E := env_cons laws_szByteS.known (env_nil tys)
theorem loops : ∀ c, Try.f12.body = some c → LoopsOk E H c := loops_none (by kernel_rfl)
theorem sound : Sound Try.prog 12 fs := fn_sound env mixed Try.func12 H loops fun ⟨x0, x1, ()⟩ hw _ => (run x0 x1).trans (eq x0 x1 hw)
theorem known : Seen Try.prog 12 fs := ⟨sound, _, Try.func12, by kernel_rfl, by kernel_rfl⟩
end laws_szDisk
namespace laws_toByteS
noncomputable def fs : FS := ⟨[(.val (.sl 5 (.int .u8)) .f)], [((.sl 5 (.int .u8)), .o)], fun x => laws_toByteS.pre x.1, fun x => ((), ((laws_toByteS x.1), ()))⟩
noncomputable def E : Env := ⟨theta, []⟩
noncomputable def L3 : LC := ⟨3, ⟨3, [0, 3, 4], []⟩, ⟨[(.one (.dat (.sl 5 (.int .u8)))), (.one .undef), (.one .undef), (.one (.arr 20000000)), (.one (.dat (.int .i64))), (.one .undef), (.one .undef), (.one .undef), (.one .undef), (.one .undef), (.one .undef), (.one .undef), (.one .undef), (.one .undef), (.one .undef), (.one .undef), (.one .undef), (.one .undef), (.one .undef), (.one .undef), (.one .undef), (.one .undef)], [(20000000, (.arr 5 (.int .u8)))]⟩, [⟨(.exit 0), ⟨0, [3], []⟩, ⟨[(.one .undef), (.one .undef), (.one .undef), (.one (.arr 20000000)), (.one .undef), (.one .undef), (.one .undef), (.one .undef), (.one .undef), (.one .undef), (.one .undef), (.one .undef), (.one .undef), (.one .undef), (.one .undef), (.one .undef), (.one .undef), (.one .undef), (.one .undef), (.one .undef), (.one .undef), (.one .undef)], [(20000000, (.arr 5 (.int .u8)))]⟩⟩], pre3, fn3⟩
noncomputable def H : List LC := [L3]
noncomputable def code (i : Nat) : Code := (loopsOf (bodyOf Try.f9)).getD i .skip
theorem step3 (x1 : (List Int)) (x2 : Int) (x3 : (List Int)) : L3.step E H (code 0) (x1, (x2, (x3, ()))) = raw3 x1 x2 x3 := by kernel_rfl
theorem lok3 : LoopOk E H (code 0) L3 := ⟨mu3, fun ⟨x1, x2, x3, ()⟩ hp => rounds_ok (step3 x1 x2 x3) (ok3 x1 x2 x3 hp)⟩
theorem run (x0 : (List Int)) : runFn E H Try.f9 fs.ps fs.rs (x0, ()) = raw x0 := by kernel_rfl
theorem env : EnvOk Try.prog E := env_nil tys
theorem loops : ∀ c, Try.f9.body = some c → LoopsOk E H c := loops_of (by kernel_rfl) (by kernel_rfl) fun i l h => match i, h with
  | 0, h => Option.some.inj h ▸ lok3
  | n + 1, h => by cases h
theorem sound : Sound Try.prog 9 fs := fn_sound env mixed Try.func9 H loops fun ⟨x0, ()⟩ hw hp => (run x0).trans (eq x0 hw hp)
theorem known : Seen Try.prog 9 fs := ⟨sound, _, Try.func9, by kernel_rfl, by kernel_rfl⟩
end laws_toByteS
namespace laws_toDisk
noncomputable def fs : FS := ⟨[(.val (.pair (.sl 5 (.int .u8)) (.pair (.int .i64) .unit)) .f)], [((.pair (.sl 5 (.int .u8)) (.pair (.int .i64) .unit)), .o)], fun x => laws_toDisk.pre x.1, fun x => ((), ((laws_toDisk x.1), ()))⟩
noncomputable def E : Env := ⟨theta, [(9, laws_toByteS.fs)]⟩
noncomputable def H : List LC := []
noncomputable def code (i : Nat) : Code := (loopsOf (bodyOf Try.f14)).getD i .skip
theorem run (x0 : ((List Int) × (Int × Unit))) : runFn E H Try.f14 fs.ps fs.rs (x0, ()) = raw x0 := by kernel_rfl
theorem env : EnvOk Try.prog E := env_cons laws_toByteS.known (env_nil tys)
theorem loops : ∀ c, Try.f14.body = some c → LoopsOk E H c := loops_none (by kernel_rfl)
theorem sound : Sound Try.prog 14 fs := fn_sound env mixed Try.func14 H loops fun ⟨x0, ()⟩ hw hp => (run x0).trans (eq x0 hw hp)
theorem known : Seen Try.prog 14 fs := ⟨sound, _, Try.func14, by kernel_rfl, by kernel_rfl⟩
end laws_toDisk
namespace laws_eqByteS
noncomputable def fs : FS := ⟨[(.val (.sl 5 (.int .u8)) .f), (.val (.sl 5 (.int .u8)) .f)], [(.bool, .o)], fun _ => true, fun x => ((), ((laws_eqByteS x.1 x.2.1), ()))⟩
noncomputable def E : Env := ⟨theta, []⟩
noncomputable def L4 : LC := ⟨4, ⟨4, [1, 0, 5], []⟩, ⟨[(.one (.dat (.sl 5 (.int .u8)))), (.one (.dat (.sl 5 (.int .u8)))), (.one .undef), (.one .undef), (.one .undef), (.one (.dat (.int .i64))), (.one .undef), (.one .undef), (.one .undef), (.one .undef), (.one .undef), (.one .undef), (.one .undef), (.one .undef), (.one .undef), (.one .undef), (.one .undef), (.one .undef), (.one .undef), (.one .undef), (.one .undef), (.one .undef), (.one .undef), (.one .undef), (.one .undef), (.one .undef)], []⟩, [⟨.ret, ⟨0, [4], []⟩, ⟨[(.one .undef), (.one .undef), (.one .undef), (.one .undef), (.one (.dat .bool)), (.one .undef), (.one .undef), (.one .undef), (.one .undef), (.one .undef), (.one .undef), (.one .undef), (.one .undef), (.one .undef), (.one .undef), (.one .undef), (.one .undef), (.one .undef), (.one .undef), (.one .undef), (.one .undef), (.one .undef), (.one .undef), (.one .undef), (.one .undef), (.one .undef)], []⟩⟩, ⟨(.exit 0), ⟨0, [], []⟩, ⟨[(.one .undef), (.one .undef), (.one .undef), (.one .undef), (.one .undef), (.one .undef), (.one .undef), (.one .undef), (.one .undef), (.one .undef), (.one .undef), (.one .undef), (.one .undef), (.one .undef), (.one .undef), (.one .undef), (.one .undef), (.one .undef), (.one .undef), (.one .undef), (.one .undef), (.one .undef), (.one .undef), (.one .undef), (.one .undef), (.one .undef)], []⟩⟩], pre4, fn4⟩
noncomputable def H : List LC := [L4]
noncomputable def code (i : Nat) : Code := (loopsOf (bodyOf Try.f11)).getD i .skip
theorem step4 (x1 : (List Int)) (x2 : (List Int)) (x3 : Int) : L4.step E H (code 0) (x1, (x2, (x3, ()))) = raw4 x1 x2 x3 := by kernel_rfl
theorem lok4 : LoopOk E H (code 0) L4 := ⟨mu4, fun ⟨x1, x2, x3, ()⟩ hp => rounds_ok (step4 x1 x2 x3) (ok4 x1 x2 x3 hp)⟩
theorem run (x0 : (List Int)) (x1 : (List Int)) : runFn E H Try.f11 fs.ps fs.rs (x0, (x1, ())) = raw x0 x1 := by kernel_rfl
theorem env : EnvOk Try.prog E := env_nil tys
theorem loops : ∀ c, Try.f11.body = some c → LoopsOk E H c := loops_of (by kernel_rfl) (by kernel_rfl) fun i l h => match i, h with
  | 0, h => Option.some.inj h ▸ lok4
  | n + 1, h => by cases h
theorem sound : Sound Try.prog 11 fs := fn_sound env mixed Try.func11 H loops fun ⟨x0, x1, ()⟩ hw _ => (run x0 x1).trans (eq x0 x1 hw)
theorem known : Seen Try.prog 11 fs := ⟨sound, _, Try.func11, by kernel_rfl, by kernel_rfl⟩
end laws_eqByteS
namespace laws_eqDisk
noncomputable def fs : FS := ⟨[(.val (.pair (.sl 5 (.int .u8)) (.pair (.int .i64) .unit)) .f), (.val (.pair (.sl 5 (.int .u8)) (.pair (.int .i64) .unit)) .f)], [(.bool, .o)], fun _ => true, fun x => ((), ((laws_eqDisk x.1 x.2.1), ()))⟩
noncomputable def E : Env := ⟨theta, [(11, laws_eqByteS.fs)]⟩
noncomputable def H : List LC := []
noncomputable def code (i : Nat) : Code := (loopsOf (bodyOf Try.f16)).getD i .skip
theorem run (x0 : ((List Int) × (Int × Unit))) (x1 : ((List Int) × (Int × Unit))) : runFn E H Try.f16 fs.ps fs.rs (x0, (x1, ())) = raw x0 x1 := by kernel_rfl
theorem env : EnvOk Try.prog E := env_cons laws_eqByteS.known (env_nil tys)
theorem loops : ∀ c, Try.f16.body = some c → LoopsOk E H c := loops_none (by kernel_rfl)
theorem sound : Sound Try.prog 16 fs := fn_sound env mixed Try.func16 H loops fun ⟨x0, x1, ()⟩ hw _ => (run x0 x1).trans (eq x0 x1 hw)
theorem known : Seen Try.prog 16 fs := ⟨sound, _, Try.func16, by kernel_rfl, by kernel_rfl⟩
end laws_eqDisk
namespace laws_markByteS
noncomputable def fs : FS := ⟨[(.mut (.sl 5 (.int .u8))), (.val (.int .i64) .f)], [((.int .i64), .o)], fun _ => true, fun x => (((laws_markByteS x.1 x.2.1).1, ()), ((laws_markByteS x.1 x.2.1).2, ()))⟩
noncomputable def E : Env := ⟨theta, []⟩
noncomputable def L2 : LC := ⟨2, ⟨2, [0, 5, 1], []⟩, ⟨[(.one (.arr 40000001)), (.one (.dat (.int .i64))), (.one .undef), (.one .undef), (.one .undef), (.one (.dat (.int .i64))), (.one .undef), (.one .undef), (.one .undef), (.one .undef), (.one .undef), (.one .undef), (.one .undef), (.one .undef), (.one .undef), (.one .undef), (.one .undef), (.one .undef), (.one .undef), (.one .undef)], [(40000001, (.arr 5 (.int .u8)))]⟩, [⟨(.exit 0), ⟨0, [1, 0], []⟩, ⟨[(.one (.arr 40000001)), (.one (.dat (.int .i64))), (.one .undef), (.one .undef), (.one .undef), (.one .undef), (.one .undef), (.one .undef), (.one .undef), (.one .undef), (.one .undef), (.one .undef), (.one .undef), (.one .undef), (.one .undef), (.one .undef), (.one .undef), (.one .undef), (.one .undef), (.one .undef)], [(40000001, (.arr 5 (.int .u8)))]⟩⟩], pre2, fn2⟩
noncomputable def H : List LC := [L2]
noncomputable def code (i : Nat) : Code := (loopsOf (bodyOf Try.f23)).getD i .skip
theorem step2 (x1 : Int) (x2 : Int) (x3 : (List Int)) : L2.step E H (code 0) (x1, (x2, (x3, ()))) = raw2 x1 x2 x3 := by kernel_rfl
theorem lok2 : LoopOk E H (code 0) L2 := ⟨mu2, fun ⟨x1, x2, x3, ()⟩ hp => rounds_ok (step2 x1 x2 x3) (ok2 x1 x2 x3 hp)⟩
theorem run (x0 : (List Int)) (x1 : Int) : runFn E H Try.f23 fs.ps fs.rs (x0, (x1, ())) = raw x0 x1 := by kernel_rfl
theorem env : EnvOk Try.prog E := env_nil tys
theorem loops : ∀ c, Try.f23.body = some c → LoopsOk E H c := loops_of (by kernel_rfl) (by kernel_rfl) fun i l h => match i, h with
  | 0, h => Option.some.inj h ▸ lok2
  | n + 1, h => by cases h
theorem sound : Sound Try.prog 23 fs := fn_sound env mixed Try.func23 H loops fun ⟨x0, x1, ()⟩ hw _ => (run x0 x1).trans (eq x0 x1 hw)
theorem known : Seen Try.prog 23 fs := ⟨sound, _, Try.func23, by kernel_rfl, by kernel_rfl⟩
end laws_markByteS
namespace laws_markDisk
noncomputable def fs : FS := ⟨[(.mut (.pair (.sl 5 (.int .u8)) (.pair (.int .i64) .unit))), (.val (.int .i64) .f)], [((.int .i64), .o)], fun _ => true, fun x => (((laws_markDisk x.1 x.2.1).1, ()), ((laws_markDisk x.1 x.2.1).2, ()))⟩
noncomputable def E : Env := ⟨theta, [(23, laws_markByteS.fs)]⟩
noncomputable def H : List LC := []
noncomputable def code (i : Nat) : Code := (loopsOf (bodyOf Try.f19)).getD i .skip
theorem run (x0 : ((List Int) × (Int × Unit))) (x1 : Int) : runFn E H Try.f19 fs.ps fs.rs (x0, (x1, ())) = raw x0 x1 := by kernel_rfl
theorem env : EnvOk Try.prog E := env_cons laws_markByteS.known (env_nil tys)
theorem loops : ∀ c, Try.f19.body = some c → LoopsOk E H c := loops_none (by kernel_rfl)
theorem sound : Sound Try.prog 19 fs := fn_sound env mixed Try.func19 H loops fun ⟨x0, x1, ()⟩ hw _ => (run x0 x1).trans (eq x0 x1 hw)
theorem known : Seen Try.prog 19 fs := ⟨sound, _, Try.func19, by kernel_rfl, by kernel_rfl⟩
end laws_markDisk
namespace laws_heldByteS
noncomputable def fs : FS := ⟨[(.val (.sl 5 (.int .u8)) .f), (.val (.int .i64) .f)], [((.int .i64), .o)], fun _ => true, fun x => ((), ((laws_heldByteS x.1 x.2.1), ()))⟩
noncomputable def E : Env := ⟨theta, []⟩
noncomputable def L2 : LC := ⟨2, ⟨2, [0, 5, 1], []⟩, ⟨[(.one (.dat (.sl 5 (.int .u8)))), (.one (.dat (.int .i64))), (.one .undef), (.one .undef), (.one .undef), (.one (.dat (.int .i64))), (.one .undef), (.one .undef), (.one .undef), (.one .undef), (.one .undef), (.one .undef), (.one .undef), (.one .undef), (.one .undef), (.one .undef), (.one .undef), (.one .undef), (.one .undef), (.one .undef), (.one .undef), (.one .undef)], []⟩, [⟨.ret, ⟨0, [4], []⟩, ⟨[(.one .undef), (.one .undef), (.one .undef), (.one .undef), (.one (.dat (.int .i64))), (.one .undef), (.one .undef), (.one .undef), (.one .undef), (.one .undef), (.one .undef), (.one .undef), (.one .undef), (.one .undef), (.one .undef), (.one .undef), (.one .undef), (.one .undef), (.one .undef), (.one .undef), (.one .undef), (.one .undef)], []⟩⟩, ⟨(.exit 0), ⟨0, [1], []⟩, ⟨[(.one .undef), (.one (.dat (.int .i64))), (.one .undef), (.one .undef), (.one .undef), (.one .undef), (.one .undef), (.one .undef), (.one .undef), (.one .undef), (.one .undef), (.one .undef), (.one .undef), (.one .undef), (.one .undef), (.one .undef), (.one .undef), (.one .undef), (.one .undef), (.one .undef), (.one .undef), (.one .undef)], []⟩⟩], pre2, fn2⟩
noncomputable def H : List LC := [L2]
noncomputable def code (i : Nat) : Code := (loopsOf (bodyOf Try.f31)).getD i .skip
theorem step2 (x1 : (List Int)) (x2 : Int) (x3 : Int) : L2.step E H (code 0) (x1, (x2, (x3, ()))) = raw2 x1 x2 x3 := by kernel_rfl
theorem lok2 : LoopOk E H (code 0) L2 := ⟨mu2, fun ⟨x1, x2, x3, ()⟩ hp => rounds_ok (step2 x1 x2 x3) (ok2 x1 x2 x3 hp)⟩
theorem run (x0 : (List Int)) (x1 : Int) : runFn E H Try.f31 fs.ps fs.rs (x0, (x1, ())) = raw x0 x1 := by kernel_rfl
theorem env : EnvOk Try.prog E := env_nil tys
theorem loops : ∀ c, Try.f31.body = some c → LoopsOk E H c := loops_of (by kernel_rfl) (by kernel_rfl) fun i l h => match i, h with
  | 0, h => Option.some.inj h ▸ lok2
  | n + 1, h => by cases h
theorem sound : Sound Try.prog 31 fs := fn_sound env mixed Try.func31 H loops fun ⟨x0, x1, ()⟩ hw _ => (run x0 x1).trans (eq x0 x1 hw)
theorem known : Seen Try.prog 31 fs := ⟨sound, _, Try.func31, by kernel_rfl, by kernel_rfl⟩
end laws_heldByteS
namespace laws_heldDisk
noncomputable def fs : FS := ⟨[(.val (.pair (.sl 5 (.int .u8)) (.pair (.int .i64) .unit)) .f), (.val (.int .i64) .f)], [((.int .i64), .o)], fun _ => true, fun x => ((), ((laws_heldDisk x.1 x.2.1), ()))⟩
noncomputable def E : Env := ⟨theta, [(31, laws_heldByteS.fs)]⟩
noncomputable def H : List LC := []
noncomputable def code (i : Nat) : Code := (loopsOf (bodyOf Try.f20)).getD i .skip
theorem run (x0 : ((List Int) × (Int × Unit))) (x1 : Int) : runFn E H Try.f20 fs.ps fs.rs (x0, (x1, ())) = raw x0 x1 := by kernel_rfl
theorem env : EnvOk Try.prog E := env_cons laws_heldByteS.known (env_nil tys)
theorem loops : ∀ c, Try.f20.body = some c → LoopsOk E H c := loops_none (by kernel_rfl)
theorem sound : Sound Try.prog 20 fs := fn_sound env mixed Try.func20 H loops fun ⟨x0, x1, ()⟩ hw _ => (run x0 x1).trans (eq x0 x1 hw)
theorem known : Seen Try.prog 20 fs := ⟨sound, _, Try.func20, by kernel_rfl, by kernel_rfl⟩
end laws_heldDisk
namespace impl_DiskOk
noncomputable def fs : FS := ⟨[(.val (.pair (.sl 5 (.int .u8)) (.pair (.int .i64) .unit)) .f)], [(.bool, .o)], fun _ => true, fun x => ((), ((impl_DiskOk x.1), ()))⟩
noncomputable def E : Env := ⟨theta, [(28, impl_within.fs)]⟩
noncomputable def H : List LC := []
noncomputable def code (i : Nat) : Code := (loopsOf (bodyOf Try.f15)).getD i .skip
theorem run (x0 : ((List Int) × (Int × Unit))) : runFn E H Try.f15 fs.ps fs.rs (x0, ()) = raw x0 := by kernel_rfl
theorem env : EnvOk Try.prog E := env_cons impl_within.known (env_nil tys)
theorem loops : ∀ c, Try.f15.body = some c → LoopsOk E H c := loops_none (by kernel_rfl)
theorem sound : Sound Try.prog 15 fs := fn_sound env mixed Try.func15 H loops fun ⟨x0, ()⟩ hw _ => (run x0).trans (eq x0 hw)
theorem known : Seen Try.prog 15 fs := ⟨sound, _, Try.func15, by kernel_rfl, by kernel_rfl⟩
end impl_DiskOk
namespace spec_DiskOk
noncomputable def fs : FS := ⟨[(.val (.pair (.sl 5 (.int .u8)) (.pair (.int .i64) .unit)) .f)], [(.bool, .o)], fun _ => true, fun x => ((), ((spec_DiskOk x.1), ()))⟩
noncomputable def E : Env := ⟨theta, [(27, spec_l1In.fs)]⟩
noncomputable def H : List LC := []
noncomputable def code (i : Nat) : Code := (loopsOf (bodyOf Try.f13)).getD i .skip
theorem run (x0 : ((List Int) × (Int × Unit))) : runFn E H Try.f13 fs.ps fs.rs (x0, ()) = raw x0 := by kernel_rfl
theorem env : EnvOk Try.prog E := env_cons spec_l1In.known (env_nil tys)
theorem loops : ∀ c, Try.f13.body = some c → LoopsOk E H c := loops_none (by kernel_rfl)
theorem sound : Sound Try.prog 13 fs := fn_sound env mixed Try.func13 H loops fun ⟨x0, ()⟩ hw _ => (run x0).trans (eq x0 hw)
theorem known : Seen Try.prog 13 fs := ⟨sound, _, Try.func13, by kernel_rfl, by kernel_rfl⟩
end spec_DiskOk
namespace impl_copyDisk
noncomputable def fs : FS := ⟨[(.val (.pair (.sl 5 (.int .u8)) (.pair (.int .i64) .unit)) .f)], [((.pair (.sl 5 (.int .u8)) (.pair (.int .i64) .unit)), .o)], fun x => impl_copyDisk.pre x.1, fun x => ((), ((impl_copyDisk x.1), ()))⟩
noncomputable def E : Env := ⟨theta, []⟩
noncomputable def H : List LC := []
noncomputable def code (i : Nat) : Code := (loopsOf (bodyOf Try.f30)).getD i .skip
theorem run (x0 : ((List Int) × (Int × Unit))) : runFn E H Try.f30 fs.ps fs.rs (x0, ()) = raw x0 := by kernel_rfl
theorem env : EnvOk Try.prog E := env_nil tys
theorem loops : ∀ c, Try.f30.body = some c → LoopsOk E H c := loops_none (by kernel_rfl)
theorem sound : Sound Try.prog 30 fs := fn_sound env mixed Try.func30 H loops fun ⟨x0, ()⟩ hw hp => (run x0).trans (eq x0 hw hp)
theorem known : Seen Try.prog 30 fs := ⟨sound, _, Try.func30, by kernel_rfl, by kernel_rfl⟩
end impl_copyDisk
namespace spec_l10Copy
noncomputable def fs : FS := ⟨[(.val (.pair (.sl 5 (.int .u8)) (.pair (.int .i64) .unit)) .f)], [((.pair (.sl 5 (.int .u8)) (.pair (.int .i64) .unit)), .o)], fun x => spec_l10Copy.pre x.1, fun x => ((), ((spec_l10Copy x.1), ()))⟩
noncomputable def E : Env := ⟨theta, []⟩
noncomputable def H : List LC := []
noncomputable def code (i : Nat) : Code := (loopsOf (bodyOf Try.f29)).getD i .skip
theorem run (x0 : ((List Int) × (Int × Unit))) : runFn E H Try.f29 fs.ps fs.rs (x0, ()) = raw x0 := by kernel_rfl
theorem env : EnvOk Try.prog E := env_nil tys
theorem loops : ∀ c, Try.f29.body = some c → LoopsOk E H c := loops_none (by kernel_rfl)
theorem sound : Sound Try.prog 29 fs := fn_sound env mixed Try.func29 H loops fun ⟨x0, ()⟩ hw hp => (run x0).trans (eq x0 hw hp)
theorem known : Seen Try.prog 29 fs := ⟨sound, _, Try.func29, by kernel_rfl, by kernel_rfl⟩
end spec_l10Copy
namespace impl_Sync
noncomputable def fs : FS := ⟨[(.val (.pair (.sl 5 (.int .u8)) (.pair (.int .i64) .unit)) .f)], [((.pair (.sl 5 (.int .u8)) (.pair (.int .i64) .unit)), .o)], fun x => impl_Sync.pre x.1, fun x => ((), ((impl_Sync x.1), ()))⟩
noncomputable def E : Env := ⟨theta, [(15, impl_DiskOk.fs), (30, impl_copyDisk.fs)]⟩
noncomputable def H : List LC := []
noncomputable def code (i : Nat) : Code := (loopsOf (bodyOf Try.f18)).getD i .skip
theorem run (x0 : ((List Int) × (Int × Unit))) : runFn E H Try.f18 fs.ps fs.rs (x0, ()) = raw x0 := by kernel_rfl
theorem env : EnvOk Try.prog E := env_cons impl_DiskOk.known (env_cons impl_copyDisk.known (env_nil tys))
theorem loops : ∀ c, Try.f18.body = some c → LoopsOk E H c := loops_none (by kernel_rfl)
theorem sound : Sound Try.prog 18 fs := fn_sound env mixed Try.func18 H loops fun ⟨x0, ()⟩ hw hp => (run x0).trans (eq x0 hw hp)
theorem known : Seen Try.prog 18 fs := ⟨sound, _, Try.func18, by kernel_rfl, by kernel_rfl⟩
end impl_Sync
namespace spec_Sync
noncomputable def fs : FS := ⟨[(.val (.pair (.sl 5 (.int .u8)) (.pair (.int .i64) .unit)) .f)], [((.pair (.sl 5 (.int .u8)) (.pair (.int .i64) .unit)), .o)], fun x => spec_Sync.pre x.1, fun x => ((), ((spec_Sync x.1), ()))⟩
noncomputable def E : Env := ⟨theta, [(13, spec_DiskOk.fs), (29, spec_l10Copy.fs)]⟩
noncomputable def H : List LC := []
noncomputable def code (i : Nat) : Code := (loopsOf (bodyOf Try.f17)).getD i .skip
theorem run (x0 : ((List Int) × (Int × Unit))) : runFn E H Try.f17 fs.ps fs.rs (x0, ()) = raw x0 := by kernel_rfl
theorem env : EnvOk Try.prog E := env_cons spec_DiskOk.known (env_cons spec_l10Copy.known (env_nil tys))
theorem loops : ∀ c, Try.f17.body = some c → LoopsOk E H c := loops_none (by kernel_rfl)
theorem sound : Sound Try.prog 17 fs := fn_sound env mixed Try.func17 H loops fun ⟨x0, ()⟩ hw hp => (run x0).trans (eq x0 hw hp)
theorem known : Seen Try.prog 17 fs := ⟨sound, _, Try.func17, by kernel_rfl, by kernel_rfl⟩
end spec_Sync
namespace impl_Append
noncomputable def fs : FS := ⟨[(.val (.pair (.sl 5 (.int .u8)) (.pair (.int .i64) .unit)) .f), (.val (.sl 5 (.int .u8)) .f)], [((.pair (.sl 5 (.int .u8)) (.pair (.int .i64) .unit)), .o), (.bool, .o)], fun x => impl_Append.pre x.1 x.2.1, fun x => ((), ((impl_Append x.1 x.2.1).1, ((impl_Append x.1 x.2.1).2, ())))⟩
noncomputable def E : Env := ⟨theta, [(15, impl_DiskOk.fs), (30, impl_copyDisk.fs)]⟩
noncomputable def H : List LC := []
noncomputable def code (i : Nat) : Code := (loopsOf (bodyOf Try.f22)).getD i .skip
theorem run (x0 : ((List Int) × (Int × Unit))) (x1 : (List Int)) : runFn E H Try.f22 fs.ps fs.rs (x0, (x1, ())) = raw x0 x1 := by kernel_rfl
theorem env : EnvOk Try.prog E := env_cons impl_DiskOk.known (env_cons impl_copyDisk.known (env_nil tys))
theorem loops : ∀ c, Try.f22.body = some c → LoopsOk E H c := loops_none (by kernel_rfl)
theorem sound : Sound Try.prog 22 fs := fn_sound env mixed Try.func22 H loops fun ⟨x0, x1, ()⟩ hw hp => (run x0 x1).trans (eq x0 x1 hw hp)
theorem known : Seen Try.prog 22 fs := ⟨sound, _, Try.func22, by kernel_rfl, by kernel_rfl⟩
end impl_Append
namespace spec_Append
noncomputable def fs : FS := ⟨[(.val (.pair (.sl 5 (.int .u8)) (.pair (.int .i64) .unit)) .f), (.val (.sl 5 (.int .u8)) .f)], [((.pair (.sl 5 (.int .u8)) (.pair (.int .i64) .unit)), .o), (.bool, .o)], fun x => spec_Append.pre x.1 x.2.1, fun x => ((), ((spec_Append x.1 x.2.1).1, ((spec_Append x.1 x.2.1).2, ())))⟩
noncomputable def E : Env := ⟨theta, [(13, spec_DiskOk.fs), (29, spec_l10Copy.fs)]⟩
noncomputable def H : List LC := []
noncomputable def code (i : Nat) : Code := (loopsOf (bodyOf Try.f21)).getD i .skip
theorem run (x0 : ((List Int) × (Int × Unit))) (x1 : (List Int)) : runFn E H Try.f21 fs.ps fs.rs (x0, (x1, ())) = raw x0 x1 := by kernel_rfl
theorem env : EnvOk Try.prog E := env_cons spec_DiskOk.known (env_cons spec_l10Copy.known (env_nil tys))
theorem loops : ∀ c, Try.f21.body = some c → LoopsOk E H c := loops_none (by kernel_rfl)
theorem sound : Sound Try.prog 21 fs := fn_sound env mixed Try.func21 H loops fun ⟨x0, x1, ()⟩ hw hp => (run x0 x1).trans (eq x0 x1 hw hp)
theorem known : Seen Try.prog 21 fs := ⟨sound, _, Try.func21, by kernel_rfl, by kernel_rfl⟩
end spec_Append
namespace impl_Fall
noncomputable def fs : FS := ⟨[(.val (.pair (.sl 5 (.int .u8)) (.pair (.int .i64) .unit)) .f), (.val (.int .i64) .f)], [((.pair (.sl 5 (.int .u8)) (.pair (.int .i64) .unit)), .o)], fun x => impl_Fall.pre x.1 x.2.1, fun x => ((), ((impl_Fall x.1 x.2.1), ()))⟩
noncomputable def E : Env := ⟨theta, [(15, impl_DiskOk.fs), (30, impl_copyDisk.fs)]⟩
noncomputable def H : List LC := []
noncomputable def code (i : Nat) : Code := (loopsOf (bodyOf Try.f25)).getD i .skip
theorem run (x0 : ((List Int) × (Int × Unit))) (x1 : Int) : runFn E H Try.f25 fs.ps fs.rs (x0, (x1, ())) = raw x0 x1 := by kernel_rfl
theorem env : EnvOk Try.prog E := env_cons impl_DiskOk.known (env_cons impl_copyDisk.known (env_nil tys))
theorem loops : ∀ c, Try.f25.body = some c → LoopsOk E H c := loops_none (by kernel_rfl)
theorem sound : Sound Try.prog 25 fs := fn_sound env mixed Try.func25 H loops fun ⟨x0, x1, ()⟩ hw hp => (run x0 x1).trans (eq x0 x1 hw hp)
theorem known : Seen Try.prog 25 fs := ⟨sound, _, Try.func25, by kernel_rfl, by kernel_rfl⟩
end impl_Fall
namespace spec_Fall
noncomputable def fs : FS := ⟨[(.val (.pair (.sl 5 (.int .u8)) (.pair (.int .i64) .unit)) .f), (.val (.int .i64) .f)], [((.pair (.sl 5 (.int .u8)) (.pair (.int .i64) .unit)), .o)], fun x => spec_Fall.pre x.1 x.2.1, fun x => ((), ((spec_Fall x.1 x.2.1), ()))⟩
noncomputable def E : Env := ⟨theta, [(33, spec_l1Min.fs), (32, spec_l1Max.fs), (13, spec_DiskOk.fs), (29, spec_l10Copy.fs)]⟩
noncomputable def H : List LC := []
noncomputable def code (i : Nat) : Code := (loopsOf (bodyOf Try.f24)).getD i .skip
theorem run (x0 : ((List Int) × (Int × Unit))) (x1 : Int) : runFn E H Try.f24 fs.ps fs.rs (x0, (x1, ())) = raw x0 x1 := by kernel_rfl
theorem env : EnvOk Try.prog E := env_cons spec_l1Min.known (env_cons spec_l1Max.known (env_cons spec_DiskOk.known (env_cons spec_l10Copy.known (env_nil tys))))
theorem loops : ∀ c, Try.f24.body = some c → LoopsOk E H c := loops_none (by kernel_rfl)
theorem sound : Sound Try.prog 24 fs := fn_sound env mixed Try.func24 H loops fun ⟨x0, x1, ()⟩ hw hp => (run x0 x1).trans (eq x0 x1 hw hp)
theorem known : Seen Try.prog 24 fs := ⟨sound, _, Try.func24, by kernel_rfl, by kernel_rfl⟩
end spec_Fall
namespace laws_FnExactDiskOk
noncomputable def fs : FS := ⟨[(.val (.pair (.sl 5 (.int .u8)) (.pair (.int .i64) .unit)) .f)], [(.bool, .o)], fun _ => true, fun x => ((), ((laws_FnExactDiskOk x.1), ()))⟩
noncomputable def E : Env := ⟨theta, [(12, laws_szDisk.fs), (14, laws_toDisk.fs), (16, laws_eqDisk.fs), (15, impl_DiskOk.fs), (13, spec_DiskOk.fs)]⟩
noncomputable def H : List LC := []
noncomputable def code (i : Nat) : Code := (loopsOf (bodyOf Try.f4)).getD i .skip
theorem run (x0 : ((List Int) × (Int × Unit))) : runFn E H Try.f4 fs.ps fs.rs (x0, ()) = raw x0 := by kernel_rfl
theorem env : EnvOk Try.prog E := env_cons laws_szDisk.known (env_cons laws_toDisk.known (env_cons laws_eqDisk.known (env_cons impl_DiskOk.known (env_cons spec_DiskOk.known (env_nil tys)))))
theorem loops : ∀ c, Try.f4.body = some c → LoopsOk E H c := loops_none (by kernel_rfl)
theorem sound : Sound Try.prog 4 fs := fn_sound env mixed Try.func4 H loops fun ⟨x0, ()⟩ hw _ => (run x0).trans (eq x0 hw)
theorem known : Seen Try.prog 4 fs := ⟨sound, _, Try.func4, by kernel_rfl, by kernel_rfl⟩
end laws_FnExactDiskOk
namespace laws_FnExactSync
noncomputable def fs : FS := ⟨[(.val (.pair (.sl 5 (.int .u8)) (.pair (.int .i64) .unit)) .f)], [(.bool, .o)], fun _ => true, fun x => ((), ((laws_FnExactSync x.1), ()))⟩
noncomputable def E : Env := ⟨theta, [(12, laws_szDisk.fs), (14, laws_toDisk.fs), (16, laws_eqDisk.fs), (19, laws_markDisk.fs), (20, laws_heldDisk.fs), (18, impl_Sync.fs), (17, spec_Sync.fs)]⟩
noncomputable def H : List LC := []
noncomputable def code (i : Nat) : Code := (loopsOf (bodyOf Try.f5)).getD i .skip
theorem run (x0 : ((List Int) × (Int × Unit))) : runFn E H Try.f5 fs.ps fs.rs (x0, ()) = raw x0 := by kernel_rfl
theorem env : EnvOk Try.prog E := env_cons laws_szDisk.known (env_cons laws_toDisk.known (env_cons laws_eqDisk.known (env_cons laws_markDisk.known (env_cons laws_heldDisk.known (env_cons impl_Sync.known (env_cons spec_Sync.known (env_nil tys)))))))
theorem loops : ∀ c, Try.f5.body = some c → LoopsOk E H c := loops_none (by kernel_rfl)
theorem sound : Sound Try.prog 5 fs := fn_sound env mixed Try.func5 H loops fun ⟨x0, ()⟩ hw _ => (run x0).trans (eq x0 hw)
theorem known : Seen Try.prog 5 fs := ⟨sound, _, Try.func5, by kernel_rfl, by kernel_rfl⟩
end laws_FnExactSync
namespace laws_FnExactAppend
noncomputable def fs : FS := ⟨[(.val (.pair (.sl 5 (.int .u8)) (.pair (.int .i64) .unit)) .f), (.val (.sl 5 (.int .u8)) .f)], [(.bool, .o)], fun _ => true, fun x => ((), ((laws_FnExactAppend x.1 x.2.1), ()))⟩
noncomputable def E : Env := ⟨theta, [(12, laws_szDisk.fs), (9, laws_toByteS.fs), (14, laws_toDisk.fs), (11, laws_eqByteS.fs), (16, laws_eqDisk.fs), (23, laws_markByteS.fs), (19, laws_markDisk.fs), (20, laws_heldDisk.fs), (22, impl_Append.fs), (21, spec_Append.fs)]⟩
noncomputable def H : List LC := []
noncomputable def code (i : Nat) : Code := (loopsOf (bodyOf Try.f6)).getD i .skip
theorem run (x0 : ((List Int) × (Int × Unit))) (x1 : (List Int)) : runFn E H Try.f6 fs.ps fs.rs (x0, (x1, ())) = raw x0 x1 := by kernel_rfl
theorem env : EnvOk Try.prog E := env_cons laws_szDisk.known (env_cons laws_toByteS.known (env_cons laws_toDisk.known (env_cons laws_eqByteS.known (env_cons laws_eqDisk.known (env_cons laws_markByteS.known (env_cons laws_markDisk.known (env_cons laws_heldDisk.known (env_cons impl_Append.known (env_cons spec_Append.known (env_nil tys))))))))))
theorem loops : ∀ c, Try.f6.body = some c → LoopsOk E H c := loops_none (by kernel_rfl)
theorem sound : Sound Try.prog 6 fs := fn_sound env mixed Try.func6 H loops fun ⟨x0, x1, ()⟩ hw _ => (run x0 x1).trans (eq x0 x1 hw)
theorem known : Seen Try.prog 6 fs := ⟨sound, _, Try.func6, by kernel_rfl, by kernel_rfl⟩
end laws_FnExactAppend
namespace laws_FnExactFall
noncomputable def fs : FS := ⟨[(.val (.pair (.sl 5 (.int .u8)) (.pair (.int .i64) .unit)) .f), (.val (.int .i64) .f)], [(.bool, .o)], fun _ => true, fun x => ((), ((laws_FnExactFall x.1 x.2.1), ()))⟩
noncomputable def E : Env := ⟨theta, [(12, laws_szDisk.fs), (14, laws_toDisk.fs), (16, laws_eqDisk.fs), (19, laws_markDisk.fs), (20, laws_heldDisk.fs), (25, impl_Fall.fs), (24, spec_Fall.fs)]⟩
noncomputable def H : List LC := []
noncomputable def code (i : Nat) : Code := (loopsOf (bodyOf Try.f7)).getD i .skip
theorem run (x0 : ((List Int) × (Int × Unit))) (x1 : Int) : runFn E H Try.f7 fs.ps fs.rs (x0, (x1, ())) = raw x0 x1 := by kernel_rfl
theorem env : EnvOk Try.prog E := env_cons laws_szDisk.known (env_cons laws_toDisk.known (env_cons laws_eqDisk.known (env_cons laws_markDisk.known (env_cons laws_heldDisk.known (env_cons impl_Fall.known (env_cons spec_Fall.known (env_nil tys)))))))
theorem loops : ∀ c, Try.f7.body = some c → LoopsOk E H c := loops_none (by kernel_rfl)
theorem sound : Sound Try.prog 7 fs := fn_sound env mixed Try.func7 H loops fun ⟨x0, x1, ()⟩ hw _ => (run x0 x1).trans (eq x0 x1 hw)
theorem known : Seen Try.prog 7 fs := ⟨sound, _, Try.func7, by kernel_rfl, by kernel_rfl⟩
end laws_FnExactFall
end Go.Aw.Pl
namespace Go.Proofs.Ytdiiffflfoadhaa.fnExactDiskOk
open Go Go.Aw Go.Aw.Pl
theorem own : ownKnob Try.prog.godebug = none := by kernel_rfl
theorem laidOut : laidOutB Try.prog = true := by kernel_rfl
theorem lifted (os : Os) (started : os.Started) (H : Type) (enc : TypeId × Value → H) :
    ReturnsInHanded {} Try.checked os 4 .any (Rows.fnExactDiskOkSpec.pre6 enc Try.prog Try.f4 Rows.fnExactDiskOkRow.domain false) (Rows.fnExactDiskOkSpec.post enc Try.prog Try.f4 false true false false) :=
  law_lifted (C := Try.checked) (Ts := [(.pair (.sl 5 (.int .u8)) (.pair (.int .i64) .unit))]) (md := .o) (g := laws_FnExactDiskOk.fs.fn) started own laidOut (by kernel_rfl) Try.func4 laws_FnExactDiskOk.sound (fun _ _ => rfl) (by kernel_rfl) rfl Try.underlying4 rfl
    (fun _ ds h => match ds, h with
      | [_], _ => ⟨rfl, rfl, rfl⟩)
    (ChangeSpec.witness6 (enc := enc) (C := Try.checked) false ⟨#[], #[.agg #[.slice none 0 0, .int .i64 0]], []⟩ 24 (by kernel_rfl) (by kernel_rfl) (by kernel_rfl) (by kernel_rfl))
theorem over : Rows.fnExactDiskOkRow.holds Try.pinned (OpenSpec.ofChange Rows.fnExactDiskOkSpec) :=
  OpenClaim.holds_of_wide 4 Try.f4 rfl rfl rfl rfl rfl rfl rfl ⟨rfl, rfl, rfl, rfl, rfl⟩ rfl rfl rfl rfl rfl (by kernel_rfl) Try.func4 (by kernel_rfl)
    (of_decide_eq_true (by kernel_rfl)) (by unfold Func.isWrapper; first | (rw [if_pos (by decide +kernel)]; kernel_rfl) | (rw [if_neg (by decide +kernel)]; exact ⟨rfl, rfl⟩))
    (fun os started H enc _ => lifted os started H enc)
theorem proved : Rows.FnExactDiskOkSaid := over
end Go.Proofs.Ytdiiffflfoadhaa.fnExactDiskOk
namespace Go.Proofs.Ytdiiffflfoadhaa.fnExactSync
open Go Go.Aw Go.Aw.Pl
theorem own : ownKnob Try.prog.godebug = none := by kernel_rfl
theorem laidOut : laidOutB Try.prog = true := by kernel_rfl
theorem lifted (os : Os) (started : os.Started) (H : Type) (enc : TypeId × Value → H) :
    ReturnsInHanded {} Try.checked os 5 .any (Rows.fnExactSyncSpec.pre6 enc Try.prog Try.f5 Rows.fnExactSyncRow.domain false) (Rows.fnExactSyncSpec.post enc Try.prog Try.f5 false true false false) :=
  law_lifted (C := Try.checked) (Ts := [(.pair (.sl 5 (.int .u8)) (.pair (.int .i64) .unit))]) (md := .o) (g := laws_FnExactSync.fs.fn) started own laidOut (by kernel_rfl) Try.func5 laws_FnExactSync.sound (fun _ _ => rfl) (by kernel_rfl) rfl Try.underlying4 rfl
    (fun _ ds h => match ds, h with
      | [_], _ => ⟨rfl, rfl, rfl⟩)
    (ChangeSpec.witness6 (enc := enc) (C := Try.checked) false ⟨#[], #[.agg #[.slice none 0 0, .int .i64 0]], []⟩ 24 (by kernel_rfl) (by kernel_rfl) (by kernel_rfl) (by kernel_rfl))
theorem over : Rows.fnExactSyncRow.holds Try.pinned (OpenSpec.ofChange Rows.fnExactSyncSpec) :=
  OpenClaim.holds_of_wide 5 Try.f5 rfl rfl rfl rfl rfl rfl rfl ⟨rfl, rfl, rfl, rfl, rfl⟩ rfl rfl rfl rfl rfl (by kernel_rfl) Try.func5 (by kernel_rfl)
    (of_decide_eq_true (by kernel_rfl)) (by unfold Func.isWrapper; first | (rw [if_pos (by decide +kernel)]; kernel_rfl) | (rw [if_neg (by decide +kernel)]; exact ⟨rfl, rfl⟩))
    (fun os started H enc _ => lifted os started H enc)
theorem proved : Rows.FnExactSyncSaid := over
end Go.Proofs.Ytdiiffflfoadhaa.fnExactSync
namespace Go.Proofs.Ytdiiffflfoadhaa.fnExactAppend
open Go Go.Aw Go.Aw.Pl
theorem own : ownKnob Try.prog.godebug = none := by kernel_rfl
theorem laidOut : laidOutB Try.prog = true := by kernel_rfl
theorem lifted (os : Os) (started : os.Started) (H : Type) (enc : TypeId × Value → H) :
    ReturnsInHanded {} Try.checked os 6 .any (Rows.fnExactAppendSpec.pre6 enc Try.prog Try.f6 Rows.fnExactAppendRow.domain false) (Rows.fnExactAppendSpec.post enc Try.prog Try.f6 false true false false) :=
  law_lifted (C := Try.checked) (Ts := [(.pair (.sl 5 (.int .u8)) (.pair (.int .i64) .unit)), (.sl 5 (.int .u8))]) (md := .o) (g := laws_FnExactAppend.fs.fn) started own laidOut (by kernel_rfl) Try.func6 laws_FnExactAppend.sound (fun _ _ => rfl) (by kernel_rfl) rfl Try.underlying4 rfl
    (fun _ ds h => match ds, h with
      | [_, _], _ => ⟨rfl, rfl, rfl⟩)
    (ChangeSpec.witness6 (enc := enc) (C := Try.checked) false ⟨#[], #[.agg #[.slice none 0 0, .int .i64 0], (.slice none 0 0)], []⟩ 24 (by kernel_rfl) (by kernel_rfl) (by kernel_rfl) (by kernel_rfl))
theorem over : Rows.fnExactAppendRow.holds Try.pinned (OpenSpec.ofChange Rows.fnExactAppendSpec) :=
  OpenClaim.holds_of_wide 6 Try.f6 rfl rfl rfl rfl rfl rfl rfl ⟨rfl, rfl, rfl, rfl, rfl⟩ rfl rfl rfl rfl rfl (by kernel_rfl) Try.func6 (by kernel_rfl)
    (of_decide_eq_true (by kernel_rfl)) (by unfold Func.isWrapper; first | (rw [if_pos (by decide +kernel)]; kernel_rfl) | (rw [if_neg (by decide +kernel)]; exact ⟨rfl, rfl⟩))
    (fun os started H enc _ => lifted os started H enc)
theorem proved : Rows.FnExactAppendSaid := over
end Go.Proofs.Ytdiiffflfoadhaa.fnExactAppend
namespace Go.Proofs.Ytdiiffflfoadhaa.fnExactFall
open Go Go.Aw Go.Aw.Pl
theorem own : ownKnob Try.prog.godebug = none := by kernel_rfl
theorem laidOut : laidOutB Try.prog = true := by kernel_rfl
theorem lifted (os : Os) (started : os.Started) (H : Type) (enc : TypeId × Value → H) :
    ReturnsInHanded {} Try.checked os 7 .any (Rows.fnExactFallSpec.pre6 enc Try.prog Try.f7 Rows.fnExactFallRow.domain false) (Rows.fnExactFallSpec.post enc Try.prog Try.f7 false true false false) :=
  law_lifted (C := Try.checked) (Ts := [(.pair (.sl 5 (.int .u8)) (.pair (.int .i64) .unit)), (.int .i64)]) (md := .o) (g := laws_FnExactFall.fs.fn) started own laidOut (by kernel_rfl) Try.func7 laws_FnExactFall.sound (fun _ _ => rfl) (by kernel_rfl) rfl Try.underlying4 rfl
    (fun _ ds h => match ds, h with
      | [_, _], _ => ⟨rfl, rfl, rfl⟩)
    (ChangeSpec.witness6 (enc := enc) (C := Try.checked) false ⟨#[], #[.agg #[.slice none 0 0, .int .i64 0], (.int .i64 0)], []⟩ 24 (by kernel_rfl) (by kernel_rfl) (by kernel_rfl) (by kernel_rfl))
theorem over : Rows.fnExactFallRow.holds Try.pinned (OpenSpec.ofChange Rows.fnExactFallSpec) :=
  OpenClaim.holds_of_wide 7 Try.f7 rfl rfl rfl rfl rfl rfl rfl ⟨rfl, rfl, rfl, rfl, rfl⟩ rfl rfl rfl rfl rfl (by kernel_rfl) Try.func7 (by kernel_rfl)
    (of_decide_eq_true (by kernel_rfl)) (by unfold Func.isWrapper; first | (rw [if_pos (by decide +kernel)]; kernel_rfl) | (rw [if_neg (by decide +kernel)]; exact ⟨rfl, rfl⟩))
    (fun os started H enc _ => lifted os started H enc)
theorem proved : Rows.FnExactFallSaid := over
end Go.Proofs.Ytdiiffflfoadhaa.fnExactFall
