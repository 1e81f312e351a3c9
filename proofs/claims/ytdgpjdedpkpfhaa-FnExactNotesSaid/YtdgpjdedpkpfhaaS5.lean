/-
  These laws hold: FnExactNotes: each answers true for every input, and nothing of its arguments is changed. Conditions: those of the given statements alone.
  Printed by a program of the proof's author: what each function does, by the plain machine (the texts Aw.. and Ax..), and the rows at the end.
-/
import Derived.Test.YtdgpjdedpkpfhaaRows
import Derived.JoinedOf
import Derived.Test.YtdgpjdedpkpfhaaPnb
namespace Go.Aw.Pl
open Go Go.Aw Go.Proofs
set_option linter.unusedVariables false
noncomputable abbrev uu : ShS := .one .undef
noncomputable abbrev ui : ShS := .one (.dat (.int .i64))
abbrev tyS55 : Ty := .pair (.sl 5 (.int .u8)) (.pair (.int .i64) (.pair .bool .unit))
abbrev tyS56 : Ty := .pair (.int .i64) (.pair (.int .i64) (.pair (.int .i64) (.pair (.int .i64) (.pair (.int .i64) (.pair (.int .i64) (.pair .str (.pair .str .unit)))))))
abbrev tyS51 : Ty := .pair (.int .i64) (.pair tyS56 .unit)
abbrev tyS52 : Ty := .pair (.int .i64) (.pair (.int .i64) (.pair (.int .i64) (.pair (.int .i64) (.pair (.sl 112 tyS51) (.pair .str .unit)))))
abbrev tyS57 : Ty := .pair (.int .i64) (.pair (.int .i64) .unit)
abbrev tyS53 : Ty := .pair (.sl 186 (.pair (.int .i64) (.pair (.int .i64) (.pair (.sl 228 (.pair (.int .i64) (.pair .str (.pair .str tyS57)))) .unit)))) (.pair (.sl 199 (.pair (.int .i64) (.pair (.int .i64) (.pair (.int .i64) (.pair (.int .i64) (.pair (.sl 236 tyS57) .unit)))))) (.pair (.sl 166 (.pair (.int .i64) (.pair (.sl 3 (.int .i64)) (.pair (.sl 3 (.int .i64)) (.pair (.sl 3 (.int .i64)) .unit))))) (.pair (.int .i64) (.pair (.sl 3 (.int .i64)) (.pair (.sl 190 (.pair (.int .i64) (.pair (.int .i64) (.pair .str (.pair .str .unit))))) .unit)))))
abbrev tyS54 : Ty := .pair (.sl 217 (.pair (.int .i64) (.pair (.int .i64) (.pair (.sl 250 (.pair (.int .i64) (.pair .str (.pair .str tyS57)))) .unit)))) (.pair (.sl 221 (.pair (.int .i64) (.pair (.int .i64) (.pair (.int .i64) (.pair (.int .i64) (.pair (.sl 253 tyS57) .unit)))))) (.pair (.sl 223 (.pair (.int .i64) (.pair (.sl 3 (.int .i64)) (.pair (.sl 3 (.int .i64)) (.pair (.sl 3 (.int .i64)) .unit))))) (.pair (.int .i64) (.pair (.sl 3 (.int .i64)) (.pair (.sl 225 (.pair (.int .i64) (.pair (.int .i64) (.pair .str (.pair .str .unit))))) .unit)))))
noncomputable def theta : List (TypeId × Ty) := [(1, .op),
  (2, (.int .i64)),
  (3, (.int .i64)),
  (4, .bool),
  (5, (.int .u8)),
  (6, (.int .u8)),
  (7, (.pair (.int .i64) (.pair (.int .i64) (.pair .bool (.pair (.int .u8) .unit))))),
  (8, (.pair (.int .i64) (.pair (.int .i64) (.pair .bool (.pair (.int .u8) .unit))))),
  (9, .str),
  (10, .str),
  (11, .str),
  (12, (.int .u64)),
  (15, .op),
  (16, .op),
  (17, .op),
  (21, (.int .i32)),
  (22, (.sl 122 tyS51)),
  (23, (.pair (.int .i64) (.pair (.int .i64) (.pair (.sl 122 tyS51) .unit)))),
  (24, (.pair (.int .i64) (.pair (.int .i64) (.pair (.sl 122 tyS51) .unit)))),
  (25, .op),
  (27, .op),
  (28, (.sl 112 tyS51)),
  (29, (.pair (.int .i64) (.pair (.int .i64) (.pair (.sl 112 tyS51) .unit)))),
  (30, (.pair (.int .i64) (.pair (.int .i64) (.pair (.sl 112 tyS51) .unit)))),
  (31, .op),
  (32, .op),
  (33, .op),
  (34, .op),
  (35, .op),
  (36, .op),
  (37, (.pair (.int .i64) (.pair (.int .i64) (.pair (.int .i64) (.pair (.int .i64) (.pair (.sl 122 tyS51) (.pair .str .unit))))))),
  (38, (.pair (.int .i64) (.pair (.int .i64) (.pair (.int .i64) (.pair (.int .i64) (.pair (.sl 122 tyS51) (.pair .str .unit))))))),
  (39, .op),
  (40, .op),
  (41, tyS52),
  (42, tyS52),
  (43, .op),
  (44, .op),
  (45, .op),
  (46, (.pair (.int .i64) (.pair (.int .i64) (.pair (.int .i64) (.pair (.int .i64) (.pair (.int .i64) (.pair (.int .i64) (.pair (.int .i64) (.pair (.sl 122 tyS51) (.pair .bool (.pair .str .unit))))))))))),
  (47, (.pair (.int .i64) (.pair (.int .i64) (.pair (.int .i64) (.pair (.int .i64) (.pair (.int .i64) (.pair (.int .i64) (.pair (.int .i64) (.pair (.sl 122 tyS51) (.pair .bool (.pair .str .unit))))))))))),
  (48, .op),
  (49, .op),
  (50, (.pair (.int .i64) (.pair (.int .i64) (.pair (.int .i64) (.pair (.int .i64) (.pair (.int .i64) (.pair (.int .i64) (.pair (.int .i64) (.pair (.sl 112 tyS51) (.pair .bool (.pair .str .unit))))))))))),
  (51, (.pair (.int .i64) (.pair (.int .i64) (.pair (.int .i64) (.pair (.int .i64) (.pair (.int .i64) (.pair (.int .i64) (.pair (.int .i64) (.pair (.sl 112 tyS51) (.pair .bool (.pair .str .unit))))))))))),
  (52, .op),
  (53, .op),
  (54, .op),
  (55, .op),
  (56, .op),
  (57, .op),
  (58, .op),
  (60, .op),
  (61, .op),
  (62, .op),
  (63, .op),
  (64, .op),
  (65, (.sl 5 (.int .u8))),
  (66, .op),
  (67, .op),
  (68, .op),
  (69, .op),
  (71, .op),
  (72, .op),
  (73, .op),
  (74, (.sl 42 tyS52)),
  (76, .op),
  (77, .op),
  (78, .op),
  (79, .op),
  (80, (.pair (.int .i64) (.pair (.int .i64) tyS57))),
  (81, (.pair (.int .i64) (.pair (.int .i64) tyS57))),
  (82, (.sl 186 (.pair (.int .i64) (.pair (.int .i64) (.pair (.sl 228 (.pair (.int .i64) (.pair .str (.pair .str tyS57)))) .unit))))),
  (83, (.sl 199 (.pair (.int .i64) (.pair (.int .i64) (.pair (.int .i64) (.pair (.int .i64) (.pair (.sl 236 tyS57) .unit))))))),
  (84, (.sl 166 (.pair (.int .i64) (.pair (.sl 3 (.int .i64)) (.pair (.sl 3 (.int .i64)) (.pair (.sl 3 (.int .i64)) .unit)))))),
  (85, (.sl 3 (.int .i64))),
  (86, (.sl 190 (.pair (.int .i64) (.pair (.int .i64) (.pair .str (.pair .str .unit)))))),
  (87, tyS53),
  (88, tyS53),
  (89, (.pair (.int .i64) (.pair (.int .i64) (.pair (.pair (.int .i64) (.pair (.int .i64) (.pair (.sl 112 tyS51) .unit))) (.pair tyS53 .unit))))),
  (90, (.pair (.int .i64) (.pair (.int .i64) (.pair (.pair (.int .i64) (.pair (.int .i64) (.pair (.sl 112 tyS51) .unit))) (.pair tyS53 .unit))))),
  (91, .op),
  (92, (.pair (.int .i64) (.pair (.int .i64) tyS57))),
  (93, .op),
  (94, .op),
  (95, .op),
  (96, .op),
  (97, (.sl 217 (.pair (.int .i64) (.pair (.int .i64) (.pair (.sl 250 (.pair (.int .i64) (.pair .str (.pair .str tyS57)))) .unit))))),
  (98, (.sl 221 (.pair (.int .i64) (.pair (.int .i64) (.pair (.int .i64) (.pair (.int .i64) (.pair (.sl 253 tyS57) .unit))))))),
  (99, (.sl 223 (.pair (.int .i64) (.pair (.sl 3 (.int .i64)) (.pair (.sl 3 (.int .i64)) (.pair (.sl 3 (.int .i64)) .unit)))))),
  (100, (.sl 225 (.pair (.int .i64) (.pair (.int .i64) (.pair .str (.pair .str .unit)))))),
  (101, tyS54),
  (102, tyS54),
  (103, (.pair (.int .i64) (.pair (.int .i64) (.pair (.pair (.int .i64) (.pair (.int .i64) (.pair (.sl 122 tyS51) .unit))) (.pair tyS54 .unit))))),
  (104, (.pair (.int .i64) (.pair (.int .i64) (.pair (.pair (.int .i64) (.pair (.int .i64) (.pair (.sl 122 tyS51) .unit))) (.pair tyS54 .unit))))),
  (105, .op),
  (106, .op),
  (107, .op),
  (108, .op),
  (109, tyS56),
  (110, tyS56),
  (111, tyS51),
  (112, tyS51),
  (113, .op),
  (114, .op),
  (115, .op),
  (116, .op),
  (117, .op),
  (118, .op),
  (119, .op),
  (120, tyS56),
  (121, tyS51),
  (122, tyS51),
  (123, .op),
  (124, .op),
  (125, .op),
  (126, .op),
  (127, .op),
  (128, .op),
  (129, .op),
  (130, .op),
  (131, .op),
  (132, (.int .u64)),
  (134, .op),
  (135, .op),
  (136, tyS55),
  (137, tyS55),
  (138, .op),
  (140, .op),
  (141, .op),
  (142, .op),
  (143, .op),
  (144, .op),
  (145, .op),
  (146, .op),
  (147, .op),
  (148, .op),
  (149, .op),
  (150, .op),
  (151, .op),
  (152, .op),
  (153, (.sl 65 (.sl 5 (.int .u8)))),
  (154, .op),
  (155, .op),
  (156, .op),
  (157, .op),
  (158, .op),
  (159, tyS55),
  (160, tyS55),
  (161, .op),
  (162, .op),
  (163, .op),
  (164, .op),
  (165, (.pair (.int .i64) (.pair (.sl 3 (.int .i64)) (.pair (.sl 3 (.int .i64)) (.pair (.sl 3 (.int .i64)) .unit))))),
  (166, (.pair (.int .i64) (.pair (.sl 3 (.int .i64)) (.pair (.sl 3 (.int .i64)) (.pair (.sl 3 (.int .i64)) .unit))))),
  (167, .op),
  (168, .op),
  (169, .op),
  (170, .op),
  (171, .op),
  (172, .op),
  (173, .op),
  (174, .op),
  (175, .op),
  (176, .op),
  (177, .op),
  (178, .op),
  (179, .op),
  (180, .op),
  (181, .op),
  (182, .op),
  (183, .op),
  (184, (.sl 228 (.pair (.int .i64) (.pair .str (.pair .str tyS57))))),
  (185, (.pair (.int .i64) (.pair (.int .i64) (.pair (.sl 228 (.pair (.int .i64) (.pair .str (.pair .str tyS57)))) .unit)))),
  (186, (.pair (.int .i64) (.pair (.int .i64) (.pair (.sl 228 (.pair (.int .i64) (.pair .str (.pair .str tyS57)))) .unit)))),
  (187, .op),
  (188, .op),
  (189, (.pair (.int .i64) (.pair (.int .i64) (.pair .str (.pair .str .unit))))),
  (190, (.pair (.int .i64) (.pair (.int .i64) (.pair .str (.pair .str .unit))))),
  (191, .op),
  (192, .op),
  (193, .op),
  (194, .op),
  (195, .op),
  (196, .op),
  (197, (.sl 236 tyS57)),
  (198, (.pair (.int .i64) (.pair (.int .i64) (.pair (.int .i64) (.pair (.int .i64) (.pair (.sl 236 tyS57) .unit)))))),
  (199, (.pair (.int .i64) (.pair (.int .i64) (.pair (.int .i64) (.pair (.int .i64) (.pair (.sl 236 tyS57) .unit)))))),
  (200, .op),
  (201, .op),
  (202, .op),
  (203, .op),
  (204, .op),
  (205, .op),
  (207, .op),
  (208, .op),
  (209, .op),
  (210, .op),
  (211, .op),
  (212, .op),
  (213, .op),
  (214, .op),
  (215, (.sl 250 (.pair (.int .i64) (.pair .str (.pair .str tyS57))))),
  (216, (.pair (.int .i64) (.pair (.int .i64) (.pair (.sl 250 (.pair (.int .i64) (.pair .str (.pair .str tyS57)))) .unit)))),
  (217, (.pair (.int .i64) (.pair (.int .i64) (.pair (.sl 250 (.pair (.int .i64) (.pair .str (.pair .str tyS57)))) .unit)))),
  (218, .op),
  (219, (.sl 253 tyS57)),
  (220, (.pair (.int .i64) (.pair (.int .i64) (.pair (.int .i64) (.pair (.int .i64) (.pair (.sl 253 tyS57) .unit)))))),
  (221, (.pair (.int .i64) (.pair (.int .i64) (.pair (.int .i64) (.pair (.int .i64) (.pair (.sl 253 tyS57) .unit)))))),
  (222, .op),
  (223, (.pair (.int .i64) (.pair (.sl 3 (.int .i64)) (.pair (.sl 3 (.int .i64)) (.pair (.sl 3 (.int .i64)) .unit))))),
  (224, .op),
  (225, (.pair (.int .i64) (.pair (.int .i64) (.pair .str (.pair .str .unit))))),
  (226, .op),
  (227, (.pair (.int .i64) (.pair .str (.pair .str tyS57)))),
  (228, (.pair (.int .i64) (.pair .str (.pair .str tyS57)))),
  (229, .op),
  (230, .op),
  (231, .op),
  (232, .op),
  (233, .op),
  (234, .op),
  (235, tyS57),
  (236, tyS57),
  (237, .op),
  (238, .op),
  (239, .op),
  (240, .op),
  (241, .op),
  (242, .op),
  (243, .op),
  (244, .op),
  (245, .op),
  (246, .op),
  (247, .op),
  (248, .op),
  (249, .op),
  (250, (.pair (.int .i64) (.pair .str (.pair .str tyS57)))),
  (251, .op),
  (252, .op),
  (253, tyS57),
  (259, (.int .u32)),
  (260, (.int .u8)),
  (261, (.int .u8)),
  (262, .op),
  (263, .op),
  (264, (.int .i32)),
  (265, (.int .i32))]
theorem tys : ∀ t T, find theta t = some T → tyF Try.prog T (.t t) = true := tys_of (by kernel_rfl)
theorem mixed : Try.prog.follows .mixedOrders = true := by kernel_rfl
namespace impl_within
noncomputable def fs : FS := ⟨[(.val (.int .i64) .f), (.val (.int .i64) .f), (.val (.int .i64) .f)], [(.bool, .o)], fun _ => true, fun x => ((), ((impl_within x.1 x.2.1 x.2.2.1), ()))⟩
noncomputable def E : Env := ⟨theta, [], []⟩
noncomputable def H : List LC := []
noncomputable def code (i : Nat) : Code := (loopsOf (bodyOf Try.f71)).getD i .skip
theorem run (x0 : Int) (x1 : Int) (x2 : Int) : runFn E H Try.f71 fs.ps fs.rs (x0, (x1, (x2, ()))) = raw x0 x1 x2 := by kernel_rfl
theorem env : EnvOk Try.prog E := env_nil tys
theorem loops : ∀ c, Try.f71.body = some c → LoopsOk E H c := loops_none (by kernel_rfl)
theorem sound : Sound Try.prog 71 fs := fn_sound env mixed Try.func71 H loops fun ⟨x0, x1, x2, ()⟩ hw _ => (run x0 x1 x2).trans (eq x0 x1 x2 hw)
theorem known : Seen Try.prog 71 fs := ⟨sound, _, Try.func71, by kernel_rfl, by kernel_rfl⟩
end impl_within
namespace spec_l1In
noncomputable def fs : FS := ⟨[(.val (.int .i64) .f), (.val (.int .i64) .f), (.val (.int .i64) .f)], [(.bool, .o)], fun _ => true, fun x => ((), ((spec_l1In x.1 x.2.1 x.2.2.1), ()))⟩
noncomputable def E : Env := ⟨theta, [], []⟩
noncomputable def H : List LC := []
noncomputable def code (i : Nat) : Code := (loopsOf (bodyOf Try.f69)).getD i .skip
theorem run (x0 : Int) (x1 : Int) (x2 : Int) : runFn E H Try.f69 fs.ps fs.rs (x0, (x1, (x2, ()))) = raw x0 x1 x2 := by kernel_rfl
theorem env : EnvOk Try.prog E := env_nil tys
theorem loops : ∀ c, Try.f69.body = some c → LoopsOk E H c := loops_none (by kernel_rfl)
theorem sound : Sound Try.prog 69 fs := fn_sound env mixed Try.func69 H loops fun ⟨x0, x1, x2, ()⟩ hw _ => (run x0 x1 x2).trans (eq x0 x1 x2 hw)
theorem known : Seen Try.prog 69 fs := ⟨sound, _, Try.func69, by kernel_rfl, by kernel_rfl⟩
end spec_l1In
namespace impl_wordsOk
noncomputable def fs : FS := ⟨[(.val .str .f)], [(.bool, .o)], fun _ => true, fun x => ((), ((impl_wordsOk x.1), ()))⟩
noncomputable def E : Env := ⟨theta, [], []⟩
noncomputable def sh2 : ShSt := ⟨[(.one (.dat .str)), uu, uu, ui, uu, uu, uu, uu, uu, uu, uu, uu, uu, uu, uu, uu, uu, uu, uu, uu, uu, uu, uu, uu, uu, uu, uu, uu, uu, uu, uu, uu, uu, uu, uu], []⟩
noncomputable def outs2 : List OutC := [⟨.ret, ⟨0, [2], []⟩, ⟨[uu, uu, (.one (.dat .bool)), uu, uu, uu, uu, uu, uu, uu, uu, uu, uu, uu, uu, uu, uu, uu, uu, uu, uu, uu, uu, uu, uu, uu, uu, uu, uu, uu, uu, uu, uu, uu, uu], []⟩⟩, ⟨(.exit 0), ⟨0, [0], []⟩, ⟨[(.one (.dat .str)), uu, uu, uu, uu, uu, uu, uu, uu, uu, uu, uu, uu, uu, uu, uu, uu, uu, uu, uu, uu, uu, uu, uu, uu, uu, uu, uu, uu, uu, uu, uu, uu, uu, uu], []⟩⟩]
noncomputable def L2 : LC := ⟨2, ⟨2, [0, 3], []⟩, sh2, outs2, pre2, fn2⟩
noncomputable def H : List LC := [L2]
noncomputable def code (i : Nat) : Code := (loopsOf (bodyOf Try.f111)).getD i .skip
theorem step2 (x1 : (List UInt8)) (x2 : Int) : L2.step E H (code 0) (x1, (x2, ())) = raw2 x1 x2 := by kernel_rfl
theorem lok2 : LoopOk E H (code 0) L2 := ⟨mu2, fun ⟨x1, x2, ()⟩ hp => rounds_ok (step2 x1 x2) (ok2 x1 x2 hp)⟩
theorem run (x0 : (List UInt8)) : runFn E H Try.f111 fs.ps fs.rs (x0, ()) = raw x0 := by kernel_rfl
theorem env : EnvOk Try.prog E := env_nil tys
theorem loops : ∀ c, Try.f111.body = some c → LoopsOk E H c := loops_of (by kernel_rfl) (by kernel_rfl) fun i l h => match i, h with
  | 0, h => Option.some.inj h ▸ lok2
  | n + 1, h => by cases h
theorem sound : Sound Try.prog 111 fs := fn_sound env mixed Try.func111 H loops fun ⟨x0, ()⟩ hw _ => (run x0).trans (eq x0 hw)
theorem known : Seen Try.prog 111 fs := ⟨sound, _, Try.func111, by kernel_rfl, by kernel_rfl⟩
end impl_wordsOk
namespace spec_l2Text
noncomputable def fs : FS := ⟨[(.val .str .f)], [(.bool, .o)], fun _ => true, fun x => ((), ((spec_l2Text x.1), ()))⟩
noncomputable def E : Env := ⟨theta, [], []⟩
noncomputable def sh2 : ShSt := ⟨[(.one (.dat .str)), uu, uu, ui, uu, uu, uu, uu, uu, uu, uu, uu, uu, uu, uu, uu, uu, uu, uu, uu, uu, uu, uu, uu, uu, uu, uu, uu, uu, uu, uu, uu, uu, uu, uu, uu], []⟩
noncomputable def outs2 : List OutC := [⟨.ret, ⟨0, [2], []⟩, ⟨[uu, uu, (.one (.dat .bool)), uu, uu, uu, uu, uu, uu, uu, uu, uu, uu, uu, uu, uu, uu, uu, uu, uu, uu, uu, uu, uu, uu, uu, uu, uu, uu, uu, uu, uu, uu, uu, uu, uu], []⟩⟩, ⟨(.exit 0), ⟨0, [0], []⟩, ⟨[(.one (.dat .str)), uu, uu, uu, uu, uu, uu, uu, uu, uu, uu, uu, uu, uu, uu, uu, uu, uu, uu, uu, uu, uu, uu, uu, uu, uu, uu, uu, uu, uu, uu, uu, uu, uu, uu, uu], []⟩⟩]
noncomputable def L2 : LC := ⟨2, ⟨2, [0, 3], []⟩, sh2, outs2, pre2, fn2⟩
noncomputable def H : List LC := [L2]
noncomputable def code (i : Nat) : Code := (loopsOf (bodyOf Try.f110)).getD i .skip
theorem step2 (x1 : (List UInt8)) (x2 : Int) : L2.step E H (code 0) (x1, (x2, ())) = raw2 x1 x2 := by kernel_rfl
theorem lok2 : LoopOk E H (code 0) L2 := ⟨mu2, fun ⟨x1, x2, ()⟩ hp => rounds_ok (step2 x1 x2) (ok2 x1 x2 hp)⟩
theorem run (x0 : (List UInt8)) : runFn E H Try.f110 fs.ps fs.rs (x0, ()) = raw x0 := by kernel_rfl
theorem env : EnvOk Try.prog E := env_nil tys
theorem loops : ∀ c, Try.f110.body = some c → LoopsOk E H c := loops_of (by kernel_rfl) (by kernel_rfl) fun i l h => match i, h with
  | 0, h => Option.some.inj h ▸ lok2
  | n + 1, h => by cases h
theorem sound : Sound Try.prog 110 fs := fn_sound env mixed Try.func110 H loops fun ⟨x0, ()⟩ hw _ => (run x0).trans (eq x0 hw)
theorem known : Seen Try.prog 110 fs := ⟨sound, _, Try.func110, by kernel_rfl, by kernel_rfl⟩
end spec_l2Text
namespace impl_CmdOk
noncomputable def fs : FS := ⟨[(.val tyS56 .f)], [(.bool, .o)], fun _ => true, fun x => ((), ((impl_CmdOk x.1), ()))⟩
noncomputable def E : Env := ⟨theta, [(71, impl_within.fs), (111, impl_wordsOk.fs)], []⟩
noncomputable def H : List LC := []
noncomputable def code (i : Nat) : Code := (loopsOf (bodyOf Try.f72)).getD i .skip
theorem run (x0 : Cmd) : runFn E H Try.f72 fs.ps fs.rs (x0, ()) = raw x0 := by kernel_rfl
theorem env : EnvOk Try.prog E := env_cons impl_within.known (env_cons impl_wordsOk.known (env_nil tys))
theorem loops : ∀ c, Try.f72.body = some c → LoopsOk E H c := loops_none (by kernel_rfl)
theorem sound : Sound Try.prog 72 fs := fn_sound env mixed Try.func72 H loops fun ⟨x0, ()⟩ hw _ => (run x0).trans (eq x0 hw)
theorem known : Seen Try.prog 72 fs := ⟨sound, _, Try.func72, by kernel_rfl, by kernel_rfl⟩
end impl_CmdOk
namespace spec_CmdOk
noncomputable def fs : FS := ⟨[(.val tyS56 .f)], [(.bool, .o)], fun _ => true, fun x => ((), ((spec_CmdOk x.1), ()))⟩
noncomputable def E : Env := ⟨theta, [(69, spec_l1In.fs), (110, spec_l2Text.fs)], []⟩
noncomputable def H : List LC := []
noncomputable def code (i : Nat) : Code := (loopsOf (bodyOf Try.f70)).getD i .skip
theorem run (x0 : Cmd) : runFn E H Try.f70 fs.ps fs.rs (x0, ()) = raw x0 := by kernel_rfl
theorem env : EnvOk Try.prog E := env_cons spec_l1In.known (env_cons spec_l2Text.known (env_nil tys))
theorem loops : ∀ c, Try.f70.body = some c → LoopsOk E H c := loops_none (by kernel_rfl)
theorem sound : Sound Try.prog 70 fs := fn_sound env mixed Try.func70 H loops fun ⟨x0, ()⟩ hw _ => (run x0).trans (eq x0 hw)
theorem known : Seen Try.prog 70 fs := ⟨sound, _, Try.func70, by kernel_rfl, by kernel_rfl⟩
end spec_CmdOk
namespace laws_eqCmd
noncomputable def fs : FS := ⟨[(.val tyS56 .f), (.val tyS56 .f)], [(.bool, .o)], fun _ => true, fun x => ((), ((laws_eqCmd x.1 x.2.1), ()))⟩
noncomputable def E : Env := ⟨theta, [], []⟩
noncomputable def H : List LC := []
noncomputable def code (i : Nat) : Code := (loopsOf (bodyOf Try.f115)).getD i .skip
theorem run (x0 : Cmd) (x1 : Cmd) : runFn E H Try.f115 fs.ps fs.rs (x0, (x1, ())) = raw x0 x1 := by kernel_rfl
theorem env : EnvOk Try.prog E := env_nil tys
theorem loops : ∀ c, Try.f115.body = some c → LoopsOk E H c := loops_none (by kernel_rfl)
theorem sound : Sound Try.prog 115 fs := fn_sound env mixed Try.func115 H loops fun ⟨x0, x1, ()⟩ hw _ => (run x0 x1).trans (eq x0 x1 hw)
theorem known : Seen Try.prog 115 fs := ⟨sound, _, Try.func115, by kernel_rfl, by kernel_rfl⟩
end laws_eqCmd
namespace laws_eqEntry
noncomputable def fs : FS := ⟨[(.val tyS51 .f), (.val tyS51 .f)], [(.bool, .o)], fun _ => true, fun x => ((), ((laws_eqEntry x.1 x.2.1), ()))⟩
noncomputable def E : Env := ⟨theta, [(115, laws_eqCmd.fs)], []⟩
noncomputable def H : List LC := []
noncomputable def code (i : Nat) : Code := (loopsOf (bodyOf Try.f85)).getD i .skip
theorem run (x0 : Entry) (x1 : Entry) : runFn E H Try.f85 fs.ps fs.rs (x0, (x1, ())) = raw x0 x1 := by kernel_rfl
theorem env : EnvOk Try.prog E := env_cons laws_eqCmd.known (env_nil tys)
theorem loops : ∀ c, Try.f85.body = some c → LoopsOk E H c := loops_none (by kernel_rfl)
theorem sound : Sound Try.prog 85 fs := fn_sound env mixed Try.func85 H loops fun ⟨x0, x1, ()⟩ hw _ => (run x0 x1).trans (eq x0 x1 hw)
theorem known : Seen Try.prog 85 fs := ⟨sound, _, Try.func85, by kernel_rfl, by kernel_rfl⟩
end laws_eqEntry
namespace laws_eqEntryS
noncomputable def fs : FS := ⟨[(.val (.sl 112 tyS51) .f), (.val (.sl 112 tyS51) .f)], [(.bool, .o)], fun _ => true, fun x => ((), ((laws_eqEntryS x.1 x.2.1), ()))⟩
noncomputable def E : Env := ⟨theta, [(85, laws_eqEntry.fs)], []⟩
noncomputable def sh4 : ShSt := ⟨[(.one (.dat (.sl 112 tyS51))), (.one (.dat (.sl 112 tyS51))), uu, uu, uu, ui, uu, uu, uu, uu, uu, uu, uu, uu, uu, uu, uu, uu, uu, uu, uu, uu, uu, uu, uu, uu, uu], []⟩
noncomputable def outs4 : List OutC := [⟨.ret, ⟨0, [4], []⟩, ⟨[uu, uu, uu, uu, (.one (.dat .bool)), uu, uu, uu, uu, uu, uu, uu, uu, uu, uu, uu, uu, uu, uu, uu, uu, uu, uu, uu, uu, uu, uu], []⟩⟩, ⟨(.exit 0), ⟨0, [], []⟩, ⟨[uu, uu, uu, uu, uu, uu, uu, uu, uu, uu, uu, uu, uu, uu, uu, uu, uu, uu, uu, uu, uu, uu, uu, uu, uu, uu, uu], []⟩⟩]
noncomputable def L4 : LC := ⟨4, ⟨4, [1, 0, 5], []⟩, sh4, outs4, pre4, fn4⟩
noncomputable def H : List LC := [L4]
noncomputable def code (i : Nat) : Code := (loopsOf (bodyOf Try.f42)).getD i .skip
theorem step4 (x1 : (List Entry)) (x2 : (List Entry)) (x3 : Int) : L4.step E H (code 0) (x1, (x2, (x3, ()))) = raw4 x1 x2 x3 := by kernel_rfl
theorem lok4 : LoopOk E H (code 0) L4 := ⟨mu4, fun ⟨x1, x2, x3, ()⟩ hp => rounds_ok (step4 x1 x2 x3) (ok4 x1 x2 x3 hp)⟩
theorem run (x0 : (List Entry)) (x1 : (List Entry)) : runFn E H Try.f42 fs.ps fs.rs (x0, (x1, ())) = raw x0 x1 := by kernel_rfl
theorem env : EnvOk Try.prog E := env_cons laws_eqEntry.known (env_nil tys)
theorem loops : ∀ c, Try.f42.body = some c → LoopsOk E H c := loops_of (by kernel_rfl) (by kernel_rfl) fun i l h => match i, h with
  | 0, h => Option.some.inj h ▸ lok4
  | n + 1, h => by cases h
theorem sound : Sound Try.prog 42 fs := fn_sound env mixed Try.func42 H loops fun ⟨x0, x1, ()⟩ hw _ => (run x0 x1).trans (eq x0 x1 hw)
theorem known : Seen Try.prog 42 fs := ⟨sound, _, Try.func42, by kernel_rfl, by kernel_rfl⟩
end laws_eqEntryS
namespace laws_markText
noncomputable def fs : FS := ⟨[(.val (.int .i64) .f)], [(.str, .o)], fun x => laws_markText.pre x.1, fun x => ((), ((laws_markText x.1), ()))⟩
noncomputable def E : Env := ⟨theta, [], []⟩
noncomputable def sh4 : ShSt := ⟨[ui, uu, uu, (.one (.dat .str)), uu, uu, uu, uu, uu, uu, uu, uu, uu, uu, uu, uu, uu, uu, uu, uu], []⟩
noncomputable def outs4 : List OutC := [⟨(.exit 0), ⟨0, [3], []⟩, ⟨[uu, uu, uu, (.one (.dat .str)), uu, uu, uu, uu, uu, uu, uu, uu, uu, uu, uu, uu, uu, uu, uu, uu], []⟩⟩]
noncomputable def L4 : LC := ⟨4, ⟨4, [0, 3], []⟩, sh4, outs4, pre4, fn4⟩
noncomputable def H : List LC := [L4]
noncomputable def code (i : Nat) : Code := (loopsOf (bodyOf Try.f86)).getD i .skip
theorem step4 (x1 : Int) (x2 : (List UInt8)) : L4.step E H (code 0) (x1, (x2, ())) = raw4 x1 x2 := by kernel_rfl
theorem lok4 : LoopOk E H (code 0) L4 := ⟨mu4, fun ⟨x1, x2, ()⟩ hp => rounds_ok (step4 x1 x2) (ok4 x1 x2 hp)⟩
theorem run (x0 : Int) : runFn E H Try.f86 fs.ps fs.rs (x0, ()) = raw x0 := by kernel_rfl
theorem env : EnvOk Try.prog E := env_nil tys
theorem loops : ∀ c, Try.f86.body = some c → LoopsOk E H c := loops_of (by kernel_rfl) (by kernel_rfl) fun i l h => match i, h with
  | 0, h => Option.some.inj h ▸ lok4
  | n + 1, h => by cases h
theorem sound : Sound Try.prog 86 fs := fn_sound env mixed Try.func86 H loops fun ⟨x0, ()⟩ hw hp => (run x0).trans (eq x0 hw hp)
theorem known : Seen Try.prog 86 fs := ⟨sound, _, Try.func86, by kernel_rfl, by kernel_rfl⟩
end laws_markText
namespace laws_markEntryS
noncomputable def fs : FS := ⟨[(.mut (.sl 112 tyS51)), (.val (.int .i64) .f)], [((.int .i64), .o)], fun x => laws_markEntryS.pre x.1 x.2.1, fun x => (((laws_markEntryS x.1 x.2.1).1, ()), ((laws_markEntryS x.1 x.2.1).2, ()))⟩
noncomputable def E : Env := ⟨theta, [(86, laws_markText.fs)], []⟩
noncomputable def sh2 : ShSt := ⟨[(.one (.arr 40000001)), ui, uu, uu, uu, ui, uu, uu, uu, uu, uu, uu, uu, uu, uu, uu, uu, uu, uu, uu, uu, uu, uu, uu, uu, uu, uu, uu, uu, uu, uu, uu, uu, uu, uu, uu, uu, uu, uu, uu, uu, uu, uu, uu, uu, uu, uu, uu, uu, uu, uu, uu, uu, uu, uu, uu, uu, uu, uu, uu, uu, uu, uu, uu, uu, uu, uu, uu, uu, uu, uu, uu, uu, uu, uu, uu, uu, uu, uu, uu, uu, uu, uu, uu, uu, uu], [(40000001, (.arr 112 tyS51))]⟩
noncomputable def outs2 : List OutC := [⟨(.exit 0), ⟨0, [1, 0], []⟩, ⟨[(.one (.arr 40000001)), ui, uu, uu, uu, uu, uu, uu, uu, uu, uu, uu, uu, uu, uu, uu, uu, uu, uu, uu, uu, uu, uu, uu, uu, uu, uu, uu, uu, uu, uu, uu, uu, uu, uu, uu, uu, uu, uu, uu, uu, uu, uu, uu, uu, uu, uu, uu, uu, uu, uu, uu, uu, uu, uu, uu, uu, uu, uu, uu, uu, uu, uu, uu, uu, uu, uu, uu, uu, uu, uu, uu, uu, uu, uu, uu, uu, uu, uu, uu, uu, uu, uu, uu, uu, uu], [(40000001, (.arr 112 tyS51))]⟩⟩]
noncomputable def L2 : LC := ⟨2, ⟨2, [0, 5, 1], []⟩, sh2, outs2, pre2, fn2⟩
noncomputable def H : List LC := [L2]
noncomputable def code (i : Nat) : Code := (loopsOf (bodyOf Try.f43)).getD i .skip
theorem step2 (x1 : Int) (x2 : Int) (x3 : (List Entry)) : L2.step E H (code 0) (x1, (x2, (x3, ()))) = raw2 x1 x2 x3 := by kernel_rfl
theorem lok2 : LoopOk E H (code 0) L2 := ⟨mu2, fun ⟨x1, x2, x3, ()⟩ hp => rounds_ok (step2 x1 x2 x3) (ok2 x1 x2 x3 hp)⟩
theorem run (x0 : (List Entry)) (x1 : Int) : runFn E H Try.f43 fs.ps fs.rs (x0, (x1, ())) = raw x0 x1 := by kernel_rfl
theorem env : EnvOk Try.prog E := env_cons laws_markText.known (env_nil tys)
theorem loops : ∀ c, Try.f43.body = some c → LoopsOk E H c := loops_of (by kernel_rfl) (by kernel_rfl) fun i l h => match i, h with
  | 0, h => Option.some.inj h ▸ lok2
  | n + 1, h => by cases h
theorem sound : Sound Try.prog 43 fs := fn_sound env mixed Try.func43 H loops fun ⟨x0, x1, ()⟩ hw hp => (run x0 x1).trans (eq x0 x1 hw hp)
theorem known : Seen Try.prog 43 fs := ⟨sound, _, Try.func43, by kernel_rfl, by kernel_rfl⟩
end laws_markEntryS
namespace laws_heldEntryS
noncomputable def fs : FS := ⟨[(.val (.sl 112 tyS51) .f), (.val (.int .i64) .f)], [((.int .i64), .o)], fun x => laws_heldEntryS.pre x.1 x.2.1, fun x => ((), ((laws_heldEntryS x.1 x.2.1), ()))⟩
noncomputable def E : Env := ⟨theta, [(86, laws_markText.fs)], []⟩
noncomputable def sh2 : ShSt := ⟨[(.one (.dat (.sl 112 tyS51))), ui, uu, uu, uu, ui, uu, uu, uu, uu, uu, uu, uu, uu, uu, uu, uu, uu, uu, uu, uu, uu, uu, uu, uu, uu, uu, uu, uu, uu, uu, uu, uu, uu, uu, uu, uu, uu, uu, uu, uu, uu, uu, uu, uu, uu, uu, uu, uu, uu, uu, uu, uu, uu, uu, uu, uu, uu, uu, uu, uu, uu, uu, uu, uu, uu, uu, uu, uu, uu, uu, uu, uu, uu, uu, uu, uu, uu, uu, uu, uu, uu, uu, uu, uu, uu, uu, uu, uu, uu, uu, uu, uu, uu, uu, uu, uu, uu, uu, uu, uu, uu, uu, uu], []⟩
noncomputable def outs2 : List OutC := [⟨.ret, ⟨0, [4], []⟩, ⟨[uu, uu, uu, uu, ui, uu, uu, uu, uu, uu, uu, uu, uu, uu, uu, uu, uu, uu, uu, uu, uu, uu, uu, uu, uu, uu, uu, uu, uu, uu, uu, uu, uu, uu, uu, uu, uu, uu, uu, uu, uu, uu, uu, uu, uu, uu, uu, uu, uu, uu, uu, uu, uu, uu, uu, uu, uu, uu, uu, uu, uu, uu, uu, uu, uu, uu, uu, uu, uu, uu, uu, uu, uu, uu, uu, uu, uu, uu, uu, uu, uu, uu, uu, uu, uu, uu, uu, uu, uu, uu, uu, uu, uu, uu, uu, uu, uu, uu, uu, uu, uu, uu, uu, uu], []⟩⟩, ⟨(.exit 0), ⟨0, [1], []⟩, ⟨[uu, ui, uu, uu, uu, uu, uu, uu, uu, uu, uu, uu, uu, uu, uu, uu, uu, uu, uu, uu, uu, uu, uu, uu, uu, uu, uu, uu, uu, uu, uu, uu, uu, uu, uu, uu, uu, uu, uu, uu, uu, uu, uu, uu, uu, uu, uu, uu, uu, uu, uu, uu, uu, uu, uu, uu, uu, uu, uu, uu, uu, uu, uu, uu, uu, uu, uu, uu, uu, uu, uu, uu, uu, uu, uu, uu, uu, uu, uu, uu, uu, uu, uu, uu, uu, uu, uu, uu, uu, uu, uu, uu, uu, uu, uu, uu, uu, uu, uu, uu, uu, uu, uu, uu], []⟩⟩]
noncomputable def L2 : LC := ⟨2, ⟨2, [0, 5, 1], []⟩, sh2, outs2, pre2, fn2⟩
noncomputable def H : List LC := [L2]
noncomputable def code (i : Nat) : Code := (loopsOf (bodyOf Try.f80)).getD i .skip
theorem step2 (x1 : (List Entry)) (x2 : Int) (x3 : Int) : L2.step E H (code 0) (x1, (x2, (x3, ()))) = raw2 x1 x2 x3 := by kernel_rfl
theorem lok2 : LoopOk E H (code 0) L2 := ⟨mu2, fun ⟨x1, x2, x3, ()⟩ hp => rounds_ok (step2 x1 x2 x3) (ok2 x1 x2 x3 hp)⟩
theorem run (x0 : (List Entry)) (x1 : Int) : runFn E H Try.f80 fs.ps fs.rs (x0, (x1, ())) = raw x0 x1 := by kernel_rfl
theorem env : EnvOk Try.prog E := env_cons laws_markText.known (env_nil tys)
theorem loops : ∀ c, Try.f80.body = some c → LoopsOk E H c := loops_of (by kernel_rfl) (by kernel_rfl) fun i l h => match i, h with
  | 0, h => Option.some.inj h ▸ lok2
  | n + 1, h => by cases h
theorem sound : Sound Try.prog 80 fs := fn_sound env mixed Try.func80 H loops fun ⟨x0, x1, ()⟩ hw hp => (run x0 x1).trans (eq x0 x1 hw hp)
theorem known : Seen Try.prog 80 fs := ⟨sound, _, Try.func80, by kernel_rfl, by kernel_rfl⟩
end laws_heldEntryS
namespace laws_eqNote
noncomputable def fs : FS := ⟨[(.val tyS52 .f), (.val tyS52 .f)], [(.bool, .o)], fun _ => true, fun x => ((), ((laws_eqNote x.1 x.2.1), ()))⟩
noncomputable def E : Env := ⟨theta, [(42, laws_eqEntryS.fs)], []⟩
noncomputable def H : List LC := []
noncomputable def code (i : Nat) : Code := (loopsOf (bodyOf Try.f28)).getD i .skip
theorem run (x0 : Note) (x1 : Note) : runFn E H Try.f28 fs.ps fs.rs (x0, (x1, ())) = raw x0 x1 := by kernel_rfl
theorem env : EnvOk Try.prog E := env_cons laws_eqEntryS.known (env_nil tys)
theorem loops : ∀ c, Try.f28.body = some c → LoopsOk E H c := loops_none (by kernel_rfl)
theorem sound : Sound Try.prog 28 fs := fn_sound env mixed Try.func28 H loops fun ⟨x0, x1, ()⟩ hw _ => (run x0 x1).trans (eq x0 x1 hw)
theorem known : Seen Try.prog 28 fs := ⟨sound, _, Try.func28, by kernel_rfl, by kernel_rfl⟩
end laws_eqNote
namespace slices_IndexFunc_Entry
noncomputable def fs : FS := ⟨[(.val (.sl 112 tyS51) .f), (.fn tyS51 .bool)], [((.int .i64), .o)], fun x => slices_IndexFunc_Entry.pre x.1 x.2.1, fun x => ((), ((slices_IndexFunc_Entry x.1 x.2.1), ()))⟩
noncomputable def E : Env := ⟨theta, [], []⟩
noncomputable def sh2 : ShSt := ⟨[(.one (.dat (.sl 112 tyS51))), (.one (.fn tyS51 .bool)), uu, uu, uu, uu, uu, ui, ui, uu, uu, uu, uu, uu, uu, uu, uu, uu, uu], []⟩
noncomputable def outs2 : List OutC := [⟨.ret, ⟨0, [4], []⟩, ⟨[uu, uu, uu, uu, ui, uu, uu, uu, uu, uu, uu, uu, uu, uu, uu, uu, uu, uu, uu], []⟩⟩, ⟨(.exit 0), ⟨0, [], []⟩, ⟨[uu, uu, uu, uu, uu, uu, uu, uu, uu, uu, uu, uu, uu, uu, uu, uu, uu, uu, uu], []⟩⟩]
noncomputable def L2 : LC := ⟨2, ⟨2, [0, 1, 7, 8], []⟩, sh2, outs2, pre2, fn2⟩
noncomputable def H : List LC := [L2]
noncomputable def code (i : Nat) : Code := (loopsOf (bodyOf Try.f112)).getD i .skip
theorem step2 (x1 : (List Entry)) (x2 : (Entry → Bool)) (x3 : (Entry → Bool)) (x4 : Int) (x5 : Int) : L2.step E H (code 0) (x1, (x2, (x3, (x4, (x5, ()))))) = raw2 x1 x2 x3 x4 x5 := by kernel_rfl
theorem lok2 : LoopOk E H (code 0) L2 := ⟨mu2, fun ⟨x1, x2, x3, x4, x5, ()⟩ hp => rounds_ok (step2 x1 x2 x3 x4 x5) (ok2 x1 x2 x3 x4 x5 hp)⟩
theorem run (x0 : (List Entry)) (x1 : ((Entry → Bool) × (Entry → Bool))) : runFn E H Try.f112 fs.ps fs.rs (x0, (x1, ())) = raw x0 x1 := by kernel_rfl
theorem env : EnvOk Try.prog E := env_nil tys
theorem loops : ∀ c, Try.f112.body = some c → LoopsOk E H c := loops_of (by kernel_rfl) (by kernel_rfl) fun i l h => match i, h with
  | 0, h => Option.some.inj h ▸ lok2
  | n + 1, h => by cases h
theorem sound : Sound Try.prog 112 fs := fn_sound env mixed Try.func112 H loops fun ⟨x0, x1, ()⟩ hw hp => (run x0 x1).trans (eq x0 x1 hw hp)
theorem known : Seen Try.prog 112 fs := ⟨sound, _, Try.func112, by kernel_rfl, by kernel_rfl⟩
end slices_IndexFunc_Entry
namespace slices_ContainsFunc_Entry
noncomputable def fs : FS := ⟨[(.val (.sl 112 tyS51) .f), (.fn tyS51 .bool)], [(.bool, .o)], fun x => slices_ContainsFunc_Entry.pre x.1 x.2.1, fun x => ((), ((slices_ContainsFunc_Entry x.1 x.2.1), ()))⟩
noncomputable def E : Env := ⟨theta, [(112, slices_IndexFunc_Entry.fs)], []⟩
noncomputable def H : List LC := []
noncomputable def code (i : Nat) : Code := (loopsOf (bodyOf Try.f74)).getD i .skip
theorem run (x0 : (List Entry)) (x1 : ((Entry → Bool) × (Entry → Bool))) : runFn E H Try.f74 fs.ps fs.rs (x0, (x1, ())) = raw x0 x1 := by kernel_rfl
theorem env : EnvOk Try.prog E := env_cons slices_IndexFunc_Entry.known (env_nil tys)
theorem loops : ∀ c, Try.f74.body = some c → LoopsOk E H c := loops_none (by kernel_rfl)
theorem sound : Sound Try.prog 74 fs := fn_sound env mixed Try.func74 H loops fun ⟨x0, x1, ()⟩ hw hp => (run x0 x1).trans (eq x0 x1 hw hp)
theorem known : Seen Try.prog 74 fs := ⟨sound, _, Try.func74, by kernel_rfl, by kernel_rfl⟩
end slices_ContainsFunc_Entry
namespace impl_NoteOk_1
noncomputable def fs : FS := ⟨[(.val tyS51 .f)], [(.bool, .o)], fun _ => true, fun x => ((), ((impl_NoteOk_1 x.1), ()))⟩
noncomputable def E : Env := ⟨theta, [(71, impl_within.fs), (72, impl_CmdOk.fs)], []⟩
noncomputable def H : List LC := []
noncomputable def code (i : Nat) : Code := (loopsOf (bodyOf Try.f75)).getD i .skip
theorem run (x0 : Entry) : runFn E H Try.f75 fs.ps fs.rs (x0, ()) = raw x0 := by kernel_rfl
theorem env : EnvOk Try.prog E := env_cons impl_within.known (env_cons impl_CmdOk.known (env_nil tys))
theorem loops : ∀ c, Try.f75.body = some c → LoopsOk E H c := loops_none (by kernel_rfl)
theorem sound : Sound Try.prog 75 fs := fn_sound env mixed Try.func75 H loops fun ⟨x0, ()⟩ hw _ => (run x0).trans (eq x0 hw)
theorem known : Seen Try.prog 75 fs := ⟨sound, _, Try.func75, by kernel_rfl, by kernel_rfl⟩
end impl_NoteOk_1
namespace spec_l9List
noncomputable def fs : FS := ⟨[(.val (.sl 112 tyS51) .f), (.val (.int .i64) .f)], [(.bool, .o)], fun _ => true, fun x => ((), ((spec_l9List x.1 x.2.1), ()))⟩
noncomputable def E : Env := ⟨theta, [(69, spec_l1In.fs), (70, spec_CmdOk.fs)], []⟩
noncomputable def sh2 : ShSt := ⟨[(.one (.dat (.sl 112 tyS51))), ui, uu, uu, uu, ui, uu, uu, uu, uu, uu, uu, uu, uu, uu, uu, uu, uu, uu, uu, uu, uu, uu, uu, uu, uu, uu, uu, uu, uu, uu, uu], []⟩
noncomputable def outs2 : List OutC := [⟨.ret, ⟨0, [4], []⟩, ⟨[uu, uu, uu, uu, (.one (.dat .bool)), uu, uu, uu, uu, uu, uu, uu, uu, uu, uu, uu, uu, uu, uu, uu, uu, uu, uu, uu, uu, uu, uu, uu, uu, uu, uu, uu], []⟩⟩, ⟨(.exit 0), ⟨0, [0], []⟩, ⟨[(.one (.dat (.sl 112 tyS51))), uu, uu, uu, uu, uu, uu, uu, uu, uu, uu, uu, uu, uu, uu, uu, uu, uu, uu, uu, uu, uu, uu, uu, uu, uu, uu, uu, uu, uu, uu, uu], []⟩⟩]
noncomputable def L2 : LC := ⟨2, ⟨2, [0, 1, 5], []⟩, sh2, outs2, pre2, fn2⟩
noncomputable def H : List LC := [L2]
noncomputable def code (i : Nat) : Code := (loopsOf (bodyOf Try.f73)).getD i .skip
theorem step2 (x1 : (List Entry)) (x2 : Int) (x3 : Int) : L2.step E H (code 0) (x1, (x2, (x3, ()))) = raw2 x1 x2 x3 := by kernel_rfl
theorem lok2 : LoopOk E H (code 0) L2 := ⟨mu2, fun ⟨x1, x2, x3, ()⟩ hp => rounds_ok (step2 x1 x2 x3) (ok2 x1 x2 x3 hp)⟩
theorem run (x0 : (List Entry)) (x1 : Int) : runFn E H Try.f73 fs.ps fs.rs (x0, (x1, ())) = raw x0 x1 := by kernel_rfl
theorem env : EnvOk Try.prog E := env_cons spec_l1In.known (env_cons spec_CmdOk.known (env_nil tys))
theorem loops : ∀ c, Try.f73.body = some c → LoopsOk E H c := loops_of (by kernel_rfl) (by kernel_rfl) fun i l h => match i, h with
  | 0, h => Option.some.inj h ▸ lok2
  | n + 1, h => by cases h
theorem sound : Sound Try.prog 73 fs := fn_sound env mixed Try.func73 H loops fun ⟨x0, x1, ()⟩ hw _ => (run x0 x1).trans (eq x0 x1 hw)
theorem known : Seen Try.prog 73 fs := ⟨sound, _, Try.func73, by kernel_rfl, by kernel_rfl⟩
end spec_l9List
namespace impl_NoteOk
noncomputable def fs : FS := ⟨[(.val tyS52 .f)], [(.bool, .o)], fun _ => true, fun x => ((), ((impl_NoteOk x.1), ()))⟩
noncomputable def E : Env := ⟨theta, [(71, impl_within.fs), (74, slices_ContainsFunc_Entry.fs), (75, impl_NoteOk_1.fs)], []⟩
noncomputable def H : List LC := []
noncomputable def code (i : Nat) : Code := (loopsOf (bodyOf Try.f27)).getD i .skip
theorem run (x0 : Note) : runFn E H Try.f27 fs.ps fs.rs (x0, ()) = raw x0 := by kernel_rfl
theorem env : EnvOk Try.prog E := env_cons impl_within.known (env_cons slices_ContainsFunc_Entry.known (env_cons impl_NoteOk_1.known (env_nil tys)))
theorem loops : ∀ c, Try.f27.body = some c → LoopsOk E H c := loops_none (by kernel_rfl)
theorem sound : Sound Try.prog 27 fs := fn_sound env mixed Try.func27 H loops fun ⟨x0, ()⟩ hw _ => (run x0).trans (eq x0 hw)
theorem known : Seen Try.prog 27 fs := ⟨sound, _, Try.func27, by kernel_rfl, by kernel_rfl⟩
end impl_NoteOk
namespace spec_NoteOk
noncomputable def fs : FS := ⟨[(.val tyS52 .f)], [(.bool, .o)], fun _ => true, fun x => ((), ((spec_NoteOk x.1), ()))⟩
noncomputable def E : Env := ⟨theta, [(69, spec_l1In.fs), (73, spec_l9List.fs)], []⟩
noncomputable def H : List LC := []
noncomputable def code (i : Nat) : Code := (loopsOf (bodyOf Try.f25)).getD i .skip
theorem run (x0 : Note) : runFn E H Try.f25 fs.ps fs.rs (x0, ()) = raw x0 := by kernel_rfl
theorem env : EnvOk Try.prog E := env_cons spec_l1In.known (env_cons spec_l9List.known (env_nil tys))
theorem loops : ∀ c, Try.f25.body = some c → LoopsOk E H c := loops_none (by kernel_rfl)
theorem sound : Sound Try.prog 25 fs := fn_sound env mixed Try.func25 H loops fun ⟨x0, ()⟩ hw _ => (run x0).trans (eq x0 hw)
theorem known : Seen Try.prog 25 fs := ⟨sound, _, Try.func25, by kernel_rfl, by kernel_rfl⟩
end spec_NoteOk
namespace laws_eqByteS
noncomputable def fs : FS := ⟨[(.val (.sl 5 (.int .u8)) .f), (.val (.sl 5 (.int .u8)) .f)], [(.bool, .o)], fun _ => true, fun x => ((), ((laws_eqByteS x.1 x.2.1), ()))⟩
noncomputable def E : Env := ⟨theta, [], []⟩
noncomputable def sh4 : ShSt := ⟨[(.one (.dat (.sl 5 (.int .u8)))), (.one (.dat (.sl 5 (.int .u8)))), uu, uu, uu, ui, uu, uu, uu, uu, uu, uu, uu, uu, uu, uu, uu, uu, uu, uu, uu, uu, uu, uu, uu, uu], []⟩
noncomputable def outs4 : List OutC := [⟨.ret, ⟨0, [4], []⟩, ⟨[uu, uu, uu, uu, (.one (.dat .bool)), uu, uu, uu, uu, uu, uu, uu, uu, uu, uu, uu, uu, uu, uu, uu, uu, uu, uu, uu, uu, uu], []⟩⟩, ⟨(.exit 0), ⟨0, [], []⟩, ⟨[uu, uu, uu, uu, uu, uu, uu, uu, uu, uu, uu, uu, uu, uu, uu, uu, uu, uu, uu, uu, uu, uu, uu, uu, uu, uu], []⟩⟩]
noncomputable def L4 : LC := ⟨4, ⟨4, [1, 0, 5], []⟩, sh4, outs4, pre4, fn4⟩
noncomputable def H : List LC := [L4]
noncomputable def code (i : Nat) : Code := (loopsOf (bodyOf Try.f46)).getD i .skip
theorem step4 (x1 : (List Int)) (x2 : (List Int)) (x3 : Int) : L4.step E H (code 0) (x1, (x2, (x3, ()))) = raw4 x1 x2 x3 := by kernel_rfl
theorem lok4 : LoopOk E H (code 0) L4 := ⟨mu4, fun ⟨x1, x2, x3, ()⟩ hp => rounds_ok (step4 x1 x2 x3) (ok4 x1 x2 x3 hp)⟩
theorem run (x0 : (List Int)) (x1 : (List Int)) : runFn E H Try.f46 fs.ps fs.rs (x0, (x1, ())) = raw x0 x1 := by kernel_rfl
theorem env : EnvOk Try.prog E := env_nil tys
theorem loops : ∀ c, Try.f46.body = some c → LoopsOk E H c := loops_of (by kernel_rfl) (by kernel_rfl) fun i l h => match i, h with
  | 0, h => Option.some.inj h ▸ lok4
  | n + 1, h => by cases h
theorem sound : Sound Try.prog 46 fs := fn_sound env mixed Try.func46 H loops fun ⟨x0, x1, ()⟩ hw _ => (run x0 x1).trans (eq x0 x1 hw)
theorem known : Seen Try.prog 46 fs := ⟨sound, _, Try.func46, by kernel_rfl, by kernel_rfl⟩
end laws_eqByteS
namespace laws_markByteS
noncomputable def fs : FS := ⟨[(.mut (.sl 5 (.int .u8))), (.val (.int .i64) .f)], [((.int .i64), .o)], fun x => laws_markByteS.pre x.1 x.2.1, fun x => (((laws_markByteS x.1 x.2.1).1, ()), ((laws_markByteS x.1 x.2.1).2, ()))⟩
noncomputable def E : Env := ⟨theta, [], []⟩
noncomputable def sh2 : ShSt := ⟨[(.one (.arr 40000001)), ui, uu, uu, uu, ui, uu, uu, uu, uu, uu, uu, uu, uu, uu, uu, uu, uu, uu, uu], [(40000001, (.arr 5 (.int .u8)))]⟩
noncomputable def outs2 : List OutC := [⟨(.exit 0), ⟨0, [1, 0], []⟩, ⟨[(.one (.arr 40000001)), ui, uu, uu, uu, uu, uu, uu, uu, uu, uu, uu, uu, uu, uu, uu, uu, uu, uu, uu], [(40000001, (.arr 5 (.int .u8)))]⟩⟩]
noncomputable def L2 : LC := ⟨2, ⟨2, [0, 5, 1], []⟩, sh2, outs2, pre2, fn2⟩
noncomputable def H : List LC := [L2]
noncomputable def code (i : Nat) : Code := (loopsOf (bodyOf Try.f48)).getD i .skip
theorem step2 (x1 : Int) (x2 : Int) (x3 : (List Int)) : L2.step E H (code 0) (x1, (x2, (x3, ()))) = raw2 x1 x2 x3 := by kernel_rfl
theorem lok2 : LoopOk E H (code 0) L2 := ⟨mu2, fun ⟨x1, x2, x3, ()⟩ hp => rounds_ok (step2 x1 x2 x3) (ok2 x1 x2 x3 hp)⟩
theorem run (x0 : (List Int)) (x1 : Int) : runFn E H Try.f48 fs.ps fs.rs (x0, (x1, ())) = raw x0 x1 := by kernel_rfl
theorem env : EnvOk Try.prog E := env_nil tys
theorem loops : ∀ c, Try.f48.body = some c → LoopsOk E H c := loops_of (by kernel_rfl) (by kernel_rfl) fun i l h => match i, h with
  | 0, h => Option.some.inj h ▸ lok2
  | n + 1, h => by cases h
theorem sound : Sound Try.prog 48 fs := fn_sound env mixed Try.func48 H loops fun ⟨x0, x1, ()⟩ hw hp => (run x0 x1).trans (eq x0 x1 hw hp)
theorem known : Seen Try.prog 48 fs := ⟨sound, _, Try.func48, by kernel_rfl, by kernel_rfl⟩
end laws_markByteS
namespace spec_SumOf
noncomputable def fs : FS := ⟨[(.val (.sl 5 (.int .u8)) .f)], [((.int .i64), .o)], fun _ => true, fun x => ((), ((spec_SumOf x.1), ()))⟩
noncomputable def E : Env := ⟨theta, [], []⟩
noncomputable def sh3 : ShSt := ⟨[(.one (.dat (.sl 5 (.int .u8)))), uu, uu, ui, ui, ui, uu, uu, uu, uu, uu, uu, uu, uu, uu, uu, uu, uu, uu, uu, uu, uu, uu, uu, uu, uu, uu, uu], []⟩
noncomputable def outs3 : List OutC := [⟨(.exit 0), ⟨0, [3, 4], []⟩, ⟨[uu, uu, uu, ui, ui, uu, uu, uu, uu, uu, uu, uu, uu, uu, uu, uu, uu, uu, uu, uu, uu, uu, uu, uu, uu, uu, uu, uu], []⟩⟩]
noncomputable def L3 : LC := ⟨3, ⟨3, [0, 5, 4, 3], []⟩, sh3, outs3, pre3, fn3⟩
noncomputable def H : List LC := [L3]
noncomputable def code (i : Nat) : Code := (loopsOf (bodyOf Try.f118)).getD i .skip
theorem step3 (x1 : (List Int)) (x2 : Int) (x3 : Int) (x4 : Int) : L3.step E H (code 0) (x1, (x2, (x3, (x4, ())))) = raw3 x1 x2 x3 x4 := by kernel_rfl
theorem lok3 : LoopOk E H (code 0) L3 := ⟨mu3, fun ⟨x1, x2, x3, x4, ()⟩ hp => rounds_ok (step3 x1 x2 x3 x4) (ok3 x1 x2 x3 x4 hp)⟩
theorem run (x0 : (List Int)) : runFn E H Try.f118 fs.ps fs.rs (x0, ()) = raw x0 := by kernel_rfl
theorem env : EnvOk Try.prog E := env_nil tys
theorem loops : ∀ c, Try.f118.body = some c → LoopsOk E H c := loops_of (by kernel_rfl) (by kernel_rfl) fun i l h => match i, h with
  | 0, h => Option.some.inj h ▸ lok3
  | n + 1, h => by cases h
theorem sound : Sound Try.prog 118 fs := fn_sound env mixed Try.func118 H loops fun ⟨x0, ()⟩ hw _ => (run x0).trans (eq x0 hw)
theorem known : Seen Try.prog 118 fs := ⟨sound, _, Try.func118, by kernel_rfl, by kernel_rfl⟩
end spec_SumOf
namespace impl_SumOf
noncomputable def fs : FS := ⟨[(.val (.sl 5 (.int .u8)) .f)], [((.int .i64), .o)], fun _ => true, fun x => ((), ((impl_SumOf x.1), ()))⟩
noncomputable def E : Env := ⟨theta, [], []⟩
noncomputable def sh3 : ShSt := ⟨[uu, uu, uu, ui, ui, uu, uu, (.one (.dat (.sl 5 (.int .u8)))), ui, ui, uu, uu, uu, uu, uu, uu, uu, uu, uu, uu, uu, uu, uu, uu, uu, uu, uu], []⟩
noncomputable def outs3 : List OutC := [⟨(.exit 0), ⟨0, [3, 4], []⟩, ⟨[uu, uu, uu, ui, ui, uu, uu, uu, uu, uu, uu, uu, uu, uu, uu, uu, uu, uu, uu, uu, uu, uu, uu, uu, uu, uu, uu], []⟩⟩]
noncomputable def L3 : LC := ⟨3, ⟨3, [7, 8, 9, 4, 3], []⟩, sh3, outs3, pre3, fn3⟩
noncomputable def H : List LC := [L3]
noncomputable def code (i : Nat) : Code := (loopsOf (bodyOf Try.f94)).getD i .skip
theorem step3 (x1 : Int) (x2 : Int) (x3 : (List Int)) (x4 : Int) (x5 : Int) : L3.step E H (code 0) (x1, (x2, (x3, (x4, (x5, ()))))) = raw3 x1 x2 x3 x4 x5 := by kernel_rfl
theorem lok3 : LoopOk E H (code 0) L3 := ⟨mu3, fun ⟨x1, x2, x3, x4, x5, ()⟩ hp => rounds_ok (step3 x1 x2 x3 x4 x5) (ok3 x1 x2 x3 x4 x5 hp)⟩
theorem run (x0 : (List Int)) : runFn E H Try.f94 fs.ps fs.rs (x0, ()) = raw x0 := by kernel_rfl
theorem env : EnvOk Try.prog E := env_nil tys
theorem loops : ∀ c, Try.f94.body = some c → LoopsOk E H c := loops_of (by kernel_rfl) (by kernel_rfl) fun i l h => match i, h with
  | 0, h => Option.some.inj h ▸ lok3
  | n + 1, h => by cases h
theorem sound : Sound Try.prog 94 fs := fn_sound env mixed Try.func94 H loops fun ⟨x0, ()⟩ hw _ => (run x0).trans (eq x0 hw)
theorem known : Seen Try.prog 94 fs := ⟨sound, _, Try.func94, by kernel_rfl, by kernel_rfl⟩
end impl_SumOf
namespace impl_PutNum
noncomputable def fs : FS := ⟨[(.val (.int .i64) .f)], [((.sl 5 (.int .u8)), .o)], fun _ => true, fun x => ((), ((impl_PutNum x.1), ()))⟩
noncomputable def E : Env := ⟨theta, [(71, impl_within.fs)], []⟩
noncomputable def sh4 : ShSt := ⟨[ui, uu, uu, (.one (.arr 20000000)), uu, uu, uu, uu, uu, uu, uu, uu, uu, uu, uu, uu, uu, uu, uu, uu, uu, uu, uu], [(20000000, (.arr 5 (.int .u8)))]⟩
noncomputable def outs4 : List OutC := [⟨(.exit 0), ⟨0, [0, 3], [(3, (5, (.int .u8)))]⟩, ⟨[ui, uu, uu, (.one (.arr 20000000)), uu, uu, uu, uu, uu, uu, uu, uu, uu, uu, uu, uu, uu, uu, uu, uu, uu, uu, uu], [(20000000, (.arr 5 (.int .u8)))]⟩⟩]
noncomputable def L4 : LC := ⟨4, ⟨4, [0, 3], [(3, (5, (.int .u8)))]⟩, sh4, outs4, pre4, fn4⟩
noncomputable def H : List LC := [L4]
noncomputable def code (i : Nat) : Code := (loopsOf (bodyOf Try.f119)).getD i .skip
theorem step4 (x1 : Int) (x2 : (List Int)) : L4.step E H (code 0) (x1, (x2, ())) = raw4 x1 x2 := by kernel_rfl
theorem lok4 : LoopOk E H (code 0) L4 := ⟨mu4, fun ⟨x1, x2, ()⟩ hp => rounds_ok (step4 x1 x2) (ok4 x1 x2 hp)⟩
theorem run (x0 : Int) : runFn E H Try.f119 fs.ps fs.rs (x0, ()) = raw x0 := by kernel_rfl
theorem env : EnvOk Try.prog E := env_cons impl_within.known (env_nil tys)
theorem loops : ∀ c, Try.f119.body = some c → LoopsOk E H c := loops_of (by kernel_rfl) (by kernel_rfl) fun i l h => match i, h with
  | 0, h => Option.some.inj h ▸ lok4
  | n + 1, h => by cases h
theorem sound : Sound Try.prog 119 fs := fn_sound env mixed Try.func119 H loops fun ⟨x0, ()⟩ hw _ => (run x0).trans (eq x0 hw)
theorem known : Seen Try.prog 119 fs := ⟨sound, _, Try.func119, by kernel_rfl, by kernel_rfl⟩
end impl_PutNum
namespace impl_PutText
noncomputable def fs : FS := ⟨[(.val .str .f)], [((.sl 5 (.int .u8)), .o)], fun x => impl_PutText.pre x.1, fun x => ((), ((impl_PutText x.1), ()))⟩
noncomputable def E : Env := ⟨theta, [(119, impl_PutNum.fs)], []⟩
noncomputable def H : List LC := []
noncomputable def code (i : Nat) : Code := (loopsOf (bodyOf Try.f93)).getD i .skip
theorem run (x0 : (List UInt8)) : runFn E H Try.f93 fs.ps fs.rs (x0, ()) = raw x0 := by kernel_rfl
theorem env : EnvOk Try.prog E := env_cons impl_PutNum.known (env_nil tys)
theorem loops : ∀ c, Try.f93.body = some c → LoopsOk E H c := loops_none (by kernel_rfl)
theorem sound : Sound Try.prog 93 fs := fn_sound env mixed Try.func93 H loops fun ⟨x0, ()⟩ hw hp => (run x0).trans (eq x0 hw hp)
theorem known : Seen Try.prog 93 fs := ⟨sound, _, Try.func93, by kernel_rfl, by kernel_rfl⟩
end impl_PutText
namespace impl_nums
noncomputable def fs : FS := ⟨[(.val (.sl 3 (.int .i64)) .f)], [((.sl 5 (.int .u8)), .o)], fun x => impl_nums.pre x.1, fun x => ((), ((impl_nums x.1), ()))⟩
noncomputable def E : Env := ⟨theta, [(119, impl_PutNum.fs)], []⟩
noncomputable def sh3 : ShSt := ⟨[uu, uu, uu, (.one (.arr 20000000)), uu, uu, (.one (.dat (.sl 3 (.int .i64)))), ui, ui, uu, uu, uu, uu, uu, uu, uu, uu, uu], [(20000000, (.arr 5 (.int .u8)))]⟩
noncomputable def outs3 : List OutC := [⟨(.exit 0), ⟨0, [3], [(3, (5, (.int .u8)))]⟩, ⟨[uu, uu, uu, (.one (.arr 20000000)), uu, uu, uu, uu, uu, uu, uu, uu, uu, uu, uu, uu, uu, uu], [(20000000, (.arr 5 (.int .u8)))]⟩⟩]
noncomputable def L3 : LC := ⟨3, ⟨3, [6, 7, 8, 3], [(3, (5, (.int .u8)))]⟩, sh3, outs3, pre3, fn3⟩
noncomputable def H : List LC := [L3]
noncomputable def code (i : Nat) : Code := (loopsOf (bodyOf Try.f90)).getD i .skip
theorem step3 (x1 : (List Int)) (x2 : Int) (x3 : Int) (x4 : (List Int)) : L3.step E H (code 0) (x1, (x2, (x3, (x4, ())))) = raw3 x1 x2 x3 x4 := by kernel_rfl
theorem lok3 : LoopOk E H (code 0) L3 := ⟨mu3, fun ⟨x1, x2, x3, x4, ()⟩ hp => rounds_ok (step3 x1 x2 x3 x4) (ok3 x1 x2 x3 x4 hp)⟩
theorem run (x0 : (List Int)) : runFn E H Try.f90 fs.ps fs.rs (x0, ()) = raw x0 := by kernel_rfl
theorem env : EnvOk Try.prog E := env_cons impl_PutNum.known (env_nil tys)
theorem loops : ∀ c, Try.f90.body = some c → LoopsOk E H c := loops_of (by kernel_rfl) (by kernel_rfl) fun i l h => match i, h with
  | 0, h => Option.some.inj h ▸ lok3
  | n + 1, h => by cases h
theorem sound : Sound Try.prog 90 fs := fn_sound env mixed Try.func90 H loops fun ⟨x0, ()⟩ hw hp => (run x0).trans (eq x0 hw hp)
theorem known : Seen Try.prog 90 fs := ⟨sound, _, Try.func90, by kernel_rfl, by kernel_rfl⟩
end impl_nums
namespace slices_Grow_byte
noncomputable def fs : FS := ⟨[(.nil 5 (.int .u8)), (.val (.int .i64) .f)], [((.sl 5 (.int .u8)), .o)], fun x => slices_Grow_byte.pre x.1, fun x => ((), ((slices_Grow_byte x.1), ()))⟩
noncomputable def E : Env := ⟨theta, [], []⟩
noncomputable def H : List LC := []
noncomputable def code (i : Nat) : Code := (loopsOf (bodyOf Try.f120)).getD i .skip
theorem run (x0 : Int) : runFn E H Try.f120 fs.ps fs.rs (x0, ()) = raw x0 := by kernel_rfl
theorem env : EnvOk Try.prog E := env_nil tys
theorem loops : ∀ c, Try.f120.body = some c → LoopsOk E H c := loops_none (by kernel_rfl)
theorem sound : Sound Try.prog 120 fs := fn_sound env mixed Try.func120 H loops fun ⟨x0, ()⟩ hw hp => (run x0).trans (eq x0 hw hp)
theorem known : Seen Try.prog 120 fs := ⟨sound, _, Try.func120, by kernel_rfl, by kernel_rfl⟩
end slices_Grow_byte
namespace slices_Concat_byte
noncomputable def fs : FS := ⟨[(.val (.sl 65 (.sl 5 (.int .u8))) .f)], [((.sl 5 (.int .u8)), .o)], fun x => slices_Concat_byte.pre x.1, fun x => ((), ((slices_Concat_byte x.1), ()))⟩
noncomputable def E : Env := ⟨theta, [(120, slices_Grow_byte.fs)], []⟩
noncomputable def sh3 : ShSt := ⟨[(.one (.dat (.sl 65 (.sl 5 (.int .u8))))), uu, uu, ui, uu, uu, uu, uu, uu, (.one (.dat (.sl 65 (.sl 5 (.int .u8))))), ui, ui, uu, uu, uu, uu, uu, uu, uu, uu, uu, uu, uu, uu, uu, uu, uu, uu, uu, uu, uu, uu, uu, uu, uu, uu], []⟩
noncomputable def outs3 : List OutC := [⟨(.exit 0), ⟨0, [0, 3], []⟩, ⟨[(.one (.dat (.sl 65 (.sl 5 (.int .u8))))), uu, uu, ui, uu, uu, uu, uu, uu, uu, uu, uu, uu, uu, uu, uu, uu, uu, uu, uu, uu, uu, uu, uu, uu, uu, uu, uu, uu, uu, uu, uu, uu, uu, uu, uu], []⟩⟩]
noncomputable def L3 : LC := ⟨3, ⟨3, [9, 0, 10, 11, 3], []⟩, sh3, outs3, pre3, fn3⟩
noncomputable def sh11 : ShSt := ⟨[uu, uu, uu, uu, uu, uu, (.one (.arr 20000000)), uu, uu, uu, uu, uu, uu, uu, uu, uu, uu, uu, uu, uu, uu, uu, uu, uu, uu, (.one (.dat (.sl 65 (.sl 5 (.int .u8))))), ui, ui, uu, uu, uu, uu, uu, uu, uu, uu], [(20000000, (.arr 5 (.int .u8)))]⟩
noncomputable def outs11 : List OutC := [⟨(.exit 2), ⟨0, [6], [(6, (5, (.int .u8)))]⟩, ⟨[uu, uu, uu, uu, uu, uu, (.one (.arr 20000000)), uu, uu, uu, uu, uu, uu, uu, uu, uu, uu, uu, uu, uu, uu, uu, uu, uu, uu, uu, uu, uu, uu, uu, uu, uu, uu, uu, uu, uu], [(20000000, (.arr 5 (.int .u8)))]⟩⟩]
noncomputable def L11 : LC := ⟨11, ⟨11, [25, 26, 27, 6], [(6, (5, (.int .u8)))]⟩, sh11, outs11, pre11, fn11⟩
noncomputable def H : List LC := [L3, L11]
noncomputable def code (i : Nat) : Code := (loopsOf (bodyOf Try.f91)).getD i .skip
theorem step3 (x1 : (List (List Int))) (x2 : Int) (x3 : (List (List Int))) (x4 : Int) (x5 : Int) : L3.step E H (code 0) (x1, (x2, (x3, (x4, (x5, ()))))) = raw3 x1 x2 x3 x4 x5 := by kernel_rfl
theorem lok3 : LoopOk E H (code 0) L3 := ⟨mu3, fun ⟨x1, x2, x3, x4, x5, ()⟩ hp => rounds_ok (step3 x1 x2 x3 x4 x5) (ok3 x1 x2 x3 x4 x5 hp)⟩
theorem step11 (x1 : (List (List Int))) (x2 : Int) (x3 : Int) (x4 : (List Int)) : L11.step E H (code 1) (x1, (x2, (x3, (x4, ())))) = raw11 x1 x2 x3 x4 := by kernel_rfl
theorem lok11 : LoopOk E H (code 1) L11 := ⟨mu11, fun ⟨x1, x2, x3, x4, ()⟩ hp => rounds_ok (step11 x1 x2 x3 x4) (ok11 x1 x2 x3 x4 hp)⟩
theorem run (x0 : (List (List Int))) : runFn E H Try.f91 fs.ps fs.rs (x0, ()) = raw x0 := by kernel_rfl
theorem env : EnvOk Try.prog E := env_cons slices_Grow_byte.known (env_nil tys)
theorem loops : ∀ c, Try.f91.body = some c → LoopsOk E H c := loops_of (by kernel_rfl) (by kernel_rfl) fun i l h => match i, h with
  | 0, h => Option.some.inj h ▸ lok3
  | 1, h => Option.some.inj h ▸ lok11
  | n + 2, h => by cases h
theorem sound : Sound Try.prog 91 fs := fn_sound env mixed Try.func91 H loops fun ⟨x0, ()⟩ hw hp => (run x0).trans (eq x0 hw hp)
theorem known : Seen Try.prog 91 fs := ⟨sound, _, Try.func91, by kernel_rfl, by kernel_rfl⟩
end slices_Concat_byte
namespace impl_CmdBytes
noncomputable def fs : FS := ⟨[(.val tyS56 .f)], [((.sl 5 (.int .u8)), .o)], fun _ => true, fun x => ((), ((impl_CmdBytes x.1), ()))⟩
noncomputable def E : Env := ⟨theta, [(72, impl_CmdOk.fs), (93, impl_PutText.fs), (90, impl_nums.fs), (91, slices_Concat_byte.fs)], []⟩
noncomputable def H : List LC := []
noncomputable def code (i : Nat) : Code := (loopsOf (bodyOf Try.f92)).getD i .skip
theorem run (x0 : Cmd) : runFn E H Try.f92 fs.ps fs.rs (x0, ()) = raw x0 := by kernel_rfl
theorem env : EnvOk Try.prog E := env_cons impl_CmdOk.known (env_cons impl_PutText.known (env_cons impl_nums.known (env_cons slices_Concat_byte.known (env_nil tys))))
theorem loops : ∀ c, Try.f92.body = some c → LoopsOk E H c := loops_none (by kernel_rfl)
theorem sound : Sound Try.prog 92 fs := fn_sound env mixed Try.func92 H loops fun ⟨x0, ()⟩ hw _ => (run x0).trans (eq x0 hw)
theorem known : Seen Try.prog 92 fs := ⟨sound, _, Try.func92, by kernel_rfl, by kernel_rfl⟩
end impl_CmdBytes
namespace spec_l9Sum
noncomputable def fs : FS := ⟨[(.val (.sl 5 (.int .u8)) .f)], [((.sl 5 (.int .u8)), .o)], fun _ => true, fun x => ((), ((spec_l9Sum x.1), ()))⟩
noncomputable def E : Env := ⟨theta, [(118, spec_SumOf.fs)], []⟩
noncomputable def H : List LC := []
noncomputable def code (i : Nat) : Code := (loopsOf (bodyOf Try.f89)).getD i .skip
theorem run (x0 : (List Int)) : runFn E H Try.f89 fs.ps fs.rs (x0, ()) = raw x0 := by kernel_rfl
theorem env : EnvOk Try.prog E := env_cons spec_SumOf.known (env_nil tys)
theorem loops : ∀ c, Try.f89.body = some c → LoopsOk E H c := loops_none (by kernel_rfl)
theorem sound : Sound Try.prog 89 fs := fn_sound env mixed Try.func89 H loops fun ⟨x0, ()⟩ hw _ => (run x0).trans (eq x0 hw)
theorem known : Seen Try.prog 89 fs := ⟨sound, _, Try.func89, by kernel_rfl, by kernel_rfl⟩
end spec_l9Sum
namespace impl_NoteBytes
noncomputable def fs : FS := ⟨[(.val tyS52 .f)], [((.sl 5 (.int .u8)), .o)], fun _ => true, fun x => ((), ((impl_NoteBytes x.1), ()))⟩
noncomputable def E : Env := ⟨theta, [(27, impl_NoteOk.fs), (94, impl_SumOf.fs), (93, impl_PutText.fs), (90, impl_nums.fs), (91, slices_Concat_byte.fs), (92, impl_CmdBytes.fs)], []⟩
noncomputable def sh5 : ShSt := ⟨[uu, (.one (.bptr 0 [] tyS52)), uu, (.one (.arr 20000000)), uu, uu, uu, uu, uu, uu, uu, uu, uu, uu, uu, uu, uu, uu, uu, uu, uu, uu, uu, uu, uu, (.one (.dat (.sl 112 tyS51))), ui, ui, uu, uu, uu, uu, uu, uu, uu, uu, uu, uu, uu, uu, uu, uu, uu, uu, uu, uu, uu, uu, uu, uu, uu, uu, uu, uu, uu, uu, uu, uu, uu, uu, uu, uu, uu, uu, uu, uu, uu, uu], [(0, (.box tyS52 (.dat tyS52))), (20000000, (.arr 5 (.int .u8)))]⟩
noncomputable def outs5 : List OutC := [⟨(.exit 0), ⟨0, [1, 3], [(3, (5, (.int .u8)))]⟩, ⟨[uu, (.one (.bptr 0 [] tyS52)), uu, (.one (.arr 20000000)), uu, uu, uu, uu, uu, uu, uu, uu, uu, uu, uu, uu, uu, uu, uu, uu, uu, uu, uu, uu, uu, uu, uu, uu, uu, uu, uu, uu, uu, uu, uu, uu, uu, uu, uu, uu, uu, uu, uu, uu, uu, uu, uu, uu, uu, uu, uu, uu, uu, uu, uu, uu, uu, uu, uu, uu, uu, uu, uu, uu, uu, uu, uu, uu], [(0, (.box tyS52 (.dat tyS52))), (20000000, (.arr 5 (.int .u8)))]⟩⟩]
noncomputable def L5 : LC := ⟨5, ⟨5, [25, 1, 26, 27, 3], [(3, (5, (.int .u8)))]⟩, sh5, outs5, pre5, fn5⟩
noncomputable def H : List LC := [L5]
noncomputable def code (i : Nat) : Code := (loopsOf (bodyOf Try.f45)).getD i .skip
theorem step5 (x1 : (List Entry)) (x2 : Int) (x3 : Int) (x4 : Note) (x5 : (List Int)) : L5.step E H (code 0) (x1, (x2, (x3, (x4, (x5, ()))))) = raw5 x1 x2 x3 x4 x5 := by kernel_rfl
theorem lok5 : LoopOk E H (code 0) L5 := ⟨mu5, fun ⟨x1, x2, x3, x4, x5, ()⟩ hp => rounds_ok (step5 x1 x2 x3 x4 x5) (ok5 x1 x2 x3 x4 x5 hp)⟩
theorem run (x0 : Note) : runFn E H Try.f45 fs.ps fs.rs (x0, ()) = raw x0 := by kernel_rfl
theorem env : EnvOk Try.prog E := env_cons impl_NoteOk.known (env_cons impl_SumOf.known (env_cons impl_PutText.known (env_cons impl_nums.known (env_cons slices_Concat_byte.known (env_cons impl_CmdBytes.known (env_nil tys))))))
theorem loops : ∀ c, Try.f45.body = some c → LoopsOk E H c := loops_of (by kernel_rfl) (by kernel_rfl) fun i l h => match i, h with
  | 0, h => Option.some.inj h ▸ lok5
  | n + 1, h => by cases h
theorem sound : Sound Try.prog 45 fs := fn_sound env mixed Try.func45 H loops fun ⟨x0, ()⟩ hw _ => (run x0).trans (eq x0 hw)
theorem known : Seen Try.prog 45 fs := ⟨sound, _, Try.func45, by kernel_rfl, by kernel_rfl⟩
end impl_NoteBytes
namespace laws_toByteS
noncomputable def fs : FS := ⟨[(.val (.sl 5 (.int .u8)) .f)], [((.sl 5 (.int .u8)), .o)], fun x => laws_toByteS.pre x.1, fun x => ((), ((laws_toByteS x.1), ()))⟩
noncomputable def E : Env := ⟨theta, [], []⟩
noncomputable def sh3 : ShSt := ⟨[(.one (.dat (.sl 5 (.int .u8)))), uu, uu, (.one (.arr 20000000)), ui, uu, uu, uu, uu, uu, uu, uu, uu, uu, uu, uu, uu, uu, uu, uu, uu, uu], [(20000000, (.arr 5 (.int .u8)))]⟩
noncomputable def outs3 : List OutC := [⟨(.exit 0), ⟨0, [3], []⟩, ⟨[uu, uu, uu, (.one (.arr 20000000)), uu, uu, uu, uu, uu, uu, uu, uu, uu, uu, uu, uu, uu, uu, uu, uu, uu, uu], [(20000000, (.arr 5 (.int .u8)))]⟩⟩]
noncomputable def L3 : LC := ⟨3, ⟨3, [0, 3, 4], []⟩, sh3, outs3, pre3, fn3⟩
noncomputable def H : List LC := [L3]
noncomputable def code (i : Nat) : Code := (loopsOf (bodyOf Try.f51)).getD i .skip
theorem step3 (x1 : (List Int)) (x2 : Int) (x3 : (List Int)) : L3.step E H (code 0) (x1, (x2, (x3, ()))) = raw3 x1 x2 x3 := by kernel_rfl
theorem lok3 : LoopOk E H (code 0) L3 := ⟨mu3, fun ⟨x1, x2, x3, ()⟩ hp => rounds_ok (step3 x1 x2 x3) (ok3 x1 x2 x3 hp)⟩
theorem run (x0 : (List Int)) : runFn E H Try.f51 fs.ps fs.rs (x0, ()) = raw x0 := by kernel_rfl
theorem env : EnvOk Try.prog E := env_nil tys
theorem loops : ∀ c, Try.f51.body = some c → LoopsOk E H c := loops_of (by kernel_rfl) (by kernel_rfl) fun i l h => match i, h with
  | 0, h => Option.some.inj h ▸ lok3
  | n + 1, h => by cases h
theorem sound : Sound Try.prog 51 fs := fn_sound env mixed Try.func51 H loops fun ⟨x0, ()⟩ hw hp => (run x0).trans (eq x0 hw hp)
theorem known : Seen Try.prog 51 fs := ⟨sound, _, Try.func51, by kernel_rfl, by kernel_rfl⟩
end laws_toByteS
namespace spec_GetNum
noncomputable def fs : FS := ⟨[(.val (.sl 5 (.int .u8)) .f), (.val (.int .i64) .f)], [((.int .i64), .o), ((.int .i64), .o), (.bool, .o)], fun _ => true, fun x => ((), ((spec_GetNum x.1 x.2.1).1, ((spec_GetNum x.1 x.2.1).2.1, ((spec_GetNum x.1 x.2.1).2.2, ()))))⟩
noncomputable def E : Env := ⟨theta, [], []⟩
noncomputable def sh3 : ShSt := ⟨[(.one (.dat (.sl 5 (.int .u8)))), ui, uu, uu, uu, uu, uu, ui, ui, uu, uu, uu, uu, uu, uu, uu, uu, uu, uu, uu, uu, uu, uu, uu, uu, uu, uu, uu, uu, uu, uu, uu, uu, uu, uu, uu, uu, uu, uu, uu, uu, uu, uu, uu, uu, uu, uu, uu, uu, uu, uu, uu, uu, uu, uu], []⟩
noncomputable def outs3 : List OutC := [⟨.ret, ⟨0, [4, 5, 6], []⟩, ⟨[uu, uu, uu, uu, ui, ui, (.one (.dat .bool)), uu, uu, uu, uu, uu, uu, uu, uu, uu, uu, uu, uu, uu, uu, uu, uu, uu, uu, uu, uu, uu, uu, uu, uu, uu, uu, uu, uu, uu, uu, uu, uu, uu, uu, uu, uu, uu, uu, uu, uu, uu, uu, uu, uu, uu, uu, uu, uu], []⟩⟩, ⟨(.exit 0), ⟨0, [], []⟩, ⟨[uu, uu, uu, uu, uu, uu, uu, uu, uu, uu, uu, uu, uu, uu, uu, uu, uu, uu, uu, uu, uu, uu, uu, uu, uu, uu, uu, uu, uu, uu, uu, uu, uu, uu, uu, uu, uu, uu, uu, uu, uu, uu, uu, uu, uu, uu, uu, uu, uu, uu, uu, uu, uu, uu, uu], []⟩⟩]
noncomputable def L3 : LC := ⟨3, ⟨3, [8, 1, 0, 7], []⟩, sh3, outs3, pre3, fn3⟩
noncomputable def H : List LC := [L3]
noncomputable def code (i : Nat) : Code := (loopsOf (bodyOf Try.f95)).getD i .skip
theorem step3 (x1 : (List Int)) (x2 : Int) (x3 : Int) (x4 : Int) : L3.step E H (code 0) (x1, (x2, (x3, (x4, ())))) = raw3 x1 x2 x3 x4 := by kernel_rfl
theorem lok3 : LoopOk E H (code 0) L3 := ⟨mu3, fun ⟨x1, x2, x3, x4, ()⟩ hp => rounds_ok (step3 x1 x2 x3 x4) (ok3 x1 x2 x3 x4 hp)⟩
theorem run (x0 : (List Int)) (x1 : Int) : runFn E H Try.f95 fs.ps fs.rs (x0, (x1, ())) = raw x0 x1 := by kernel_rfl
theorem env : EnvOk Try.prog E := env_nil tys
theorem loops : ∀ c, Try.f95.body = some c → LoopsOk E H c := loops_of (by kernel_rfl) (by kernel_rfl) fun i l h => match i, h with
  | 0, h => Option.some.inj h ▸ lok3
  | n + 1, h => by cases h
theorem sound : Sound Try.prog 95 fs := fn_sound env mixed Try.func95 H loops fun ⟨x0, x1, ()⟩ hw _ => (run x0 x1).trans (eq x0 x1 hw)
theorem known : Seen Try.prog 95 fs := ⟨sound, _, Try.func95, by kernel_rfl, by kernel_rfl⟩
end spec_GetNum
namespace impl_GetNum
noncomputable def fs : FS := ⟨[(.val (.sl 5 (.int .u8)) .f), (.val (.int .i64) .f)], [((.int .i64), .o), ((.int .i64), .o), (.bool, .o)], fun _ => true, fun x => ((), ((impl_GetNum x.1 x.2.1).1, ((impl_GetNum x.1 x.2.1).2.1, ((impl_GetNum x.1 x.2.1).2.2, ()))))⟩
noncomputable def E : Env := ⟨theta, [], []⟩
noncomputable def sh5 : ShSt := ⟨[(.one (.dat (.sl 5 (.int .u8)))), ui, uu, uu, uu, uu, uu, ui, ui, uu, uu, uu, uu, uu, uu, uu, uu, uu, uu, uu, uu, uu, uu, uu, uu, uu, uu, uu, uu, uu, uu, uu, uu, uu, uu, uu, uu, uu, uu, uu, uu, uu, uu, uu, uu, uu, uu, uu, uu, uu, uu, uu, uu, uu, uu, uu, uu, uu, uu], []⟩
noncomputable def outs5 : List OutC := [⟨.ret, ⟨0, [4, 5, 6], []⟩, ⟨[uu, uu, uu, uu, ui, ui, (.one (.dat .bool)), uu, uu, uu, uu, uu, uu, uu, uu, uu, uu, uu, uu, uu, uu, uu, uu, uu, uu, uu, uu, uu, uu, uu, uu, uu, uu, uu, uu, uu, uu, uu, uu, uu, uu, uu, uu, uu, uu, uu, uu, uu, uu, uu, uu, uu, uu, uu, uu, uu, uu, uu, uu], []⟩⟩, ⟨(.exit 0), ⟨0, [], []⟩, ⟨[uu, uu, uu, uu, uu, uu, uu, uu, uu, uu, uu, uu, uu, uu, uu, uu, uu, uu, uu, uu, uu, uu, uu, uu, uu, uu, uu, uu, uu, uu, uu, uu, uu, uu, uu, uu, uu, uu, uu, uu, uu, uu, uu, uu, uu, uu, uu, uu, uu, uu, uu, uu, uu, uu, uu, uu, uu, uu, uu], []⟩⟩]
noncomputable def L5 : LC := ⟨5, ⟨5, [8, 0, 1, 7], []⟩, sh5, outs5, pre5, fn5⟩
noncomputable def H : List LC := [L5]
noncomputable def code (i : Nat) : Code := (loopsOf (bodyOf Try.f97)).getD i .skip
theorem step5 (x1 : (List Int)) (x2 : Int) (x3 : Int) (x4 : Int) : L5.step E H (code 0) (x1, (x2, (x3, (x4, ())))) = raw5 x1 x2 x3 x4 := by kernel_rfl
theorem lok5 : LoopOk E H (code 0) L5 := ⟨mu5, fun ⟨x1, x2, x3, x4, ()⟩ hp => rounds_ok (step5 x1 x2 x3 x4) (ok5 x1 x2 x3 x4 hp)⟩
theorem run (x0 : (List Int)) (x1 : Int) : runFn E H Try.f97 fs.ps fs.rs (x0, (x1, ())) = raw x0 x1 := by kernel_rfl
theorem env : EnvOk Try.prog E := env_nil tys
theorem loops : ∀ c, Try.f97.body = some c → LoopsOk E H c := loops_of (by kernel_rfl) (by kernel_rfl) fun i l h => match i, h with
  | 0, h => Option.some.inj h ▸ lok5
  | n + 1, h => by cases h
theorem sound : Sound Try.prog 97 fs := fn_sound env mixed Try.func97 H loops fun ⟨x0, x1, ()⟩ hw _ => (run x0 x1).trans (eq x0 x1 hw)
theorem known : Seen Try.prog 97 fs := ⟨sound, _, Try.func97, by kernel_rfl, by kernel_rfl⟩
end impl_GetNum
namespace spec_GetText
noncomputable def fs : FS := ⟨[(.val (.sl 5 (.int .u8)) .f), (.val (.int .i64) .f)], [(.str, .o), ((.int .i64), .o), (.bool, .o)], fun _ => true, fun x => ((), ((spec_GetText x.1 x.2.1).1, ((spec_GetText x.1 x.2.1).2.1, ((spec_GetText x.1 x.2.1).2.2, ()))))⟩
noncomputable def E : Env := ⟨theta, [(95, spec_GetNum.fs)], []⟩
noncomputable def H : List LC := []
noncomputable def code (i : Nat) : Code := (loopsOf (bodyOf Try.f172)).getD i .skip
theorem run (x0 : (List Int)) (x1 : Int) : runFn E H Try.f172 fs.ps fs.rs (x0, (x1, ())) = raw x0 x1 := by kernel_rfl
theorem env : EnvOk Try.prog E := env_cons spec_GetNum.known (env_nil tys)
theorem loops : ∀ c, Try.f172.body = some c → LoopsOk E H c := loops_none (by kernel_rfl)
theorem sound : Sound Try.prog 172 fs := fn_sound env mixed Try.func172 H loops fun ⟨x0, x1, ()⟩ hw _ => (run x0 x1).trans (eq x0 x1 hw)
theorem known : Seen Try.prog 172 fs := ⟨sound, _, Try.func172, by kernel_rfl, by kernel_rfl⟩
end spec_GetText
namespace impl_GetText
noncomputable def fs : FS := ⟨[(.val (.sl 5 (.int .u8)) .f), (.val (.int .i64) .f)], [(.str, .o), ((.int .i64), .o), (.bool, .o)], fun _ => true, fun x => ((), ((impl_GetText x.1 x.2.1).1, ((impl_GetText x.1 x.2.1).2.1, ((impl_GetText x.1 x.2.1).2.2, ()))))⟩
noncomputable def E : Env := ⟨theta, [(97, impl_GetNum.fs)], []⟩
noncomputable def H : List LC := []
noncomputable def code (i : Nat) : Code := (loopsOf (bodyOf Try.f173)).getD i .skip
theorem run (x0 : (List Int)) (x1 : Int) : runFn E H Try.f173 fs.ps fs.rs (x0, (x1, ())) = raw x0 x1 := by kernel_rfl
theorem env : EnvOk Try.prog E := env_cons impl_GetNum.known (env_nil tys)
theorem loops : ∀ c, Try.f173.body = some c → LoopsOk E H c := loops_none (by kernel_rfl)
theorem sound : Sound Try.prog 173 fs := fn_sound env mixed Try.func173 H loops fun ⟨x0, x1, ()⟩ hw _ => (run x0 x1).trans (eq x0 x1 hw)
theorem known : Seen Try.prog 173 fs := ⟨sound, _, Try.func173, by kernel_rfl, by kernel_rfl⟩
end impl_GetText
namespace spec_l7Num
noncomputable def fs : FS := ⟨[(.ref tyS55 .f)], [((.int .i64), .o)], fun _ => true, fun x => (((spec_l7Num x.1).1, ()), ((spec_l7Num x.1).2, ()))⟩
noncomputable def E : Env := ⟨theta, [(95, spec_GetNum.fs)], []⟩
noncomputable def H : List LC := []
noncomputable def code (i : Nat) : Code := (loopsOf (bodyOf Try.f121)).getD i .skip
theorem run (x0 : ((List Int) × (Int × (Bool × Unit)))) : runFn E H Try.f121 fs.ps fs.rs (x0, ()) = raw x0 := by kernel_rfl
theorem env : EnvOk Try.prog E := env_cons spec_GetNum.known (env_nil tys)
theorem loops : ∀ c, Try.f121.body = some c → LoopsOk E H c := loops_none (by kernel_rfl)
theorem sound : Sound Try.prog 121 fs := fn_sound env mixed Try.func121 H loops fun ⟨x0, ()⟩ hw _ => (run x0).trans (eq x0 hw)
theorem known : Seen Try.prog 121 fs := ⟨sound, _, Try.func121, by kernel_rfl, by kernel_rfl⟩
end spec_l7Num
namespace spec_l7Text
noncomputable def fs : FS := ⟨[(.ref tyS55 .f)], [(.str, .o)], fun _ => true, fun x => (((spec_l7Text x.1).1, ()), ((spec_l7Text x.1).2, ()))⟩
noncomputable def E : Env := ⟨theta, [(172, spec_GetText.fs)], []⟩
noncomputable def H : List LC := []
noncomputable def code (i : Nat) : Code := (loopsOf (bodyOf Try.f123)).getD i .skip
theorem run (x0 : ((List Int) × (Int × (Bool × Unit)))) : runFn E H Try.f123 fs.ps fs.rs (x0, ()) = raw x0 := by kernel_rfl
theorem env : EnvOk Try.prog E := env_cons spec_GetText.known (env_nil tys)
theorem loops : ∀ c, Try.f123.body = some c → LoopsOk E H c := loops_none (by kernel_rfl)
theorem sound : Sound Try.prog 123 fs := fn_sound env mixed Try.func123 H loops fun ⟨x0, ()⟩ hw _ => (run x0).trans (eq x0 hw)
theorem known : Seen Try.prog 123 fs := ⟨sound, _, Try.func123, by kernel_rfl, by kernel_rfl⟩
end spec_l7Text
namespace spec_l7Cmd
noncomputable def fs : FS := ⟨[(.ref tyS55 .f)], [(tyS56, .o)], fun _ => true, fun x => (((spec_l7Cmd x.1).1, ()), ((spec_l7Cmd x.1).2, ()))⟩
noncomputable def E : Env := ⟨theta, [(121, spec_l7Num.fs), (123, spec_l7Text.fs)], []⟩
noncomputable def H : List LC := []
noncomputable def code (i : Nat) : Code := (loopsOf (bodyOf Try.f122)).getD i .skip
theorem run (x0 : ((List Int) × (Int × (Bool × Unit)))) : runFn E H Try.f122 fs.ps fs.rs (x0, ()) = raw x0 := by kernel_rfl
theorem env : EnvOk Try.prog E := env_cons spec_l7Num.known (env_cons spec_l7Text.known (env_nil tys))
theorem loops : ∀ c, Try.f122.body = some c → LoopsOk E H c := loops_none (by kernel_rfl)
theorem sound : Sound Try.prog 122 fs := fn_sound env mixed Try.func122 H loops fun ⟨x0, ()⟩ hw _ => (run x0).trans (eq x0 hw)
theorem known : Seen Try.prog 122 fs := ⟨sound, _, Try.func122, by kernel_rfl, by kernel_rfl⟩
end spec_l7Cmd
namespace spec_l9Read
noncomputable def fs : FS := ⟨[(.ref tyS55 .f)], [(tyS52, .o)], fun x => spec_l9Read.pre x.1, fun x => (((spec_l9Read x.1).1, ()), ((spec_l9Read x.1).2, ()))⟩
noncomputable def E : Env := ⟨theta, [(121, spec_l7Num.fs), (123, spec_l7Text.fs), (122, spec_l7Cmd.fs)], []⟩
noncomputable def sh8 : ShSt := ⟨[(.one (.bptr 10000000 [] tyS55)), uu, (.one (.bptr 0 [] tyS52)), (.one (.bptr 8224 [] tyS52)), ui, ui, uu, uu, uu, uu, uu, uu, uu, uu, uu, uu, uu, uu, uu, uu, uu, uu, uu, uu, uu, uu, uu, uu, uu, uu, uu, uu, uu, uu, uu, uu, uu, uu, uu, uu, uu, uu, uu, uu, uu, uu, uu, uu, uu, uu, uu], [(10000000, (.box tyS55 (.dat tyS55))), (0, (.box tyS52 (.pair (.dat (.int .i64)) (.pair (.dat (.int .i64)) (.pair (.dat (.int .i64)) (.pair (.dat (.int .i64)) (.pair (.arr 20000000) (.dat (.pair .str .unit))))))))), (20000000, (.arr 112 tyS51)), (8224, (.box tyS52 (.pair (.dat (.int .i64)) (.pair (.dat (.int .i64)) (.pair (.dat (.int .i64)) (.pair (.dat (.int .i64)) (.pair (.arr 20000001) (.dat (.pair .str .unit))))))))), (20000001, (.arr 112 tyS51))]⟩
noncomputable def outs8 : List OutC := [⟨(.exit 0), ⟨0, [2, 3, 0], []⟩, ⟨[(.one (.bptr 10000000 [] tyS55)), uu, (.one (.bptr 0 [] tyS52)), (.one (.bptr 8224 [] tyS52)), uu, uu, uu, uu, uu, uu, uu, uu, uu, uu, uu, uu, uu, uu, uu, uu, uu, uu, uu, uu, uu, uu, uu, uu, uu, uu, uu, uu, uu, uu, uu, uu, uu, uu, uu, uu, uu, uu, uu, uu, uu, uu, uu, uu, uu, uu, uu], [(10000000, (.box tyS55 (.dat tyS55))), (0, (.box tyS52 (.pair (.dat (.int .i64)) (.pair (.dat (.int .i64)) (.pair (.dat (.int .i64)) (.pair (.dat (.int .i64)) (.pair (.arr 20000000) (.dat (.pair .str .unit))))))))), (20000000, (.arr 112 tyS51)), (8224, (.box tyS52 (.pair (.dat (.int .i64)) (.pair (.dat (.int .i64)) (.pair (.dat (.int .i64)) (.pair (.dat (.int .i64)) (.pair (.arr 20000001) (.dat (.pair .str .unit))))))))), (20000001, (.arr 112 tyS51))]⟩⟩]
noncomputable def L8 : LC := ⟨8, ⟨8, [3, 0, 2, 4, 5], []⟩, sh8, outs8, pre8, fn8⟩
noncomputable def H : List LC := [L8]
noncomputable def code (i : Nat) : Code := (loopsOf (bodyOf Try.f96)).getD i .skip
theorem step8 (x1 : Int) (x2 : Int) (x3 : ((List Int) × (Int × (Bool × Unit)))) (x4 : Int) (x5 : Int) (x6 : Int) (x7 : Int) (x8 : ((List UInt8) × Unit)) (x9 : (List Entry)) (x10 : Int) (x11 : Int) (x12 : Int) (x13 : Int) (x14 : ((List UInt8) × Unit)) (x15 : (List Entry)) : L8.step E H (code 0) (x1, (x2, (x3, (x4, (x5, (x6, (x7, (x8, (x9, (x10, (x11, (x12, (x13, (x14, (x15, ()))))))))))))))) = raw8 x1 x2 x3 x4 x5 x6 x7 x8 x9 x10 x11 x12 x13 x14 x15 := by kernel_rfl
theorem lok8 : LoopOk E H (code 0) L8 := ⟨mu8, fun ⟨x1, x2, x3, x4, x5, x6, x7, x8, x9, x10, x11, x12, x13, x14, x15, ()⟩ hp => rounds_ok (step8 x1 x2 x3 x4 x5 x6 x7 x8 x9 x10 x11 x12 x13 x14 x15) (ok8 x1 x2 x3 x4 x5 x6 x7 x8 x9 x10 x11 x12 x13 x14 x15 hp)⟩
theorem run (x0 : ((List Int) × (Int × (Bool × Unit)))) : runFn E H Try.f96 fs.ps fs.rs (x0, ()) = raw x0 := by kernel_rfl
theorem env : EnvOk Try.prog E := env_cons spec_l7Num.known (env_cons spec_l7Text.known (env_cons spec_l7Cmd.known (env_nil tys)))
theorem loops : ∀ c, Try.f96.body = some c → LoopsOk E H c := loops_of (by kernel_rfl) (by kernel_rfl) fun i l h => match i, h with
  | 0, h => Option.some.inj h ▸ lok8
  | n + 1, h => by cases h
theorem sound : Sound Try.prog 96 fs := fn_sound env mixed Try.func96 H loops fun ⟨x0, ()⟩ hw hp => (run x0).trans (eq x0 hw hp)
theorem known : Seen Try.prog 96 fs := ⟨sound, _, Try.func96, by kernel_rfl, by kernel_rfl⟩
end spec_l9Read
namespace reader_num
noncomputable def fs : FS := ⟨[(.ref tyS55 .f)], [((.int .i64), .o)], fun _ => true, fun x => (((reader_num x.1).1, ()), ((reader_num x.1).2, ()))⟩
noncomputable def E : Env := ⟨theta, [(97, impl_GetNum.fs)], []⟩
noncomputable def H : List LC := []
noncomputable def code (i : Nat) : Code := (loopsOf (bodyOf Try.f124)).getD i .skip
theorem run (x0 : ((List Int) × (Int × (Bool × Unit)))) : runFn E H Try.f124 fs.ps fs.rs (x0, ()) = raw x0 := by kernel_rfl
theorem env : EnvOk Try.prog E := env_cons impl_GetNum.known (env_nil tys)
theorem loops : ∀ c, Try.f124.body = some c → LoopsOk E H c := loops_none (by kernel_rfl)
theorem sound : Sound Try.prog 124 fs := fn_sound env mixed Try.func124 H loops fun ⟨x0, ()⟩ hw _ => (run x0).trans (eq x0 hw)
theorem known : Seen Try.prog 124 fs := ⟨sound, _, Try.func124, by kernel_rfl, by kernel_rfl⟩
end reader_num
namespace reader_text
noncomputable def fs : FS := ⟨[(.ref tyS55 .f)], [(.str, .o)], fun _ => true, fun x => (((reader_text x.1).1, ()), ((reader_text x.1).2, ()))⟩
noncomputable def E : Env := ⟨theta, [(173, impl_GetText.fs)], []⟩
noncomputable def H : List LC := []
noncomputable def code (i : Nat) : Code := (loopsOf (bodyOf Try.f128)).getD i .skip
theorem run (x0 : ((List Int) × (Int × (Bool × Unit)))) : runFn E H Try.f128 fs.ps fs.rs (x0, ()) = raw x0 := by kernel_rfl
theorem env : EnvOk Try.prog E := env_cons impl_GetText.known (env_nil tys)
theorem loops : ∀ c, Try.f128.body = some c → LoopsOk E H c := loops_none (by kernel_rfl)
theorem sound : Sound Try.prog 128 fs := fn_sound env mixed Try.func128 H loops fun ⟨x0, ()⟩ hw _ => (run x0).trans (eq x0 hw)
theorem known : Seen Try.prog 128 fs := ⟨sound, _, Try.func128, by kernel_rfl, by kernel_rfl⟩
end reader_text
namespace reader_cmd
noncomputable def fs : FS := ⟨[(.ref tyS55 .f)], [(tyS56, .o)], fun _ => true, fun x => (((reader_cmd x.1).1, ()), ((reader_cmd x.1).2, ()))⟩
noncomputable def E : Env := ⟨theta, [(72, impl_CmdOk.fs), (124, reader_num.fs), (128, reader_text.fs)], []⟩
noncomputable def H : List LC := []
noncomputable def code (i : Nat) : Code := (loopsOf (bodyOf Try.f127)).getD i .skip
theorem run (x0 : ((List Int) × (Int × (Bool × Unit)))) : runFn E H Try.f127 fs.ps fs.rs (x0, ()) = raw x0 := by kernel_rfl
theorem env : EnvOk Try.prog E := env_cons impl_CmdOk.known (env_cons reader_num.known (env_cons reader_text.known (env_nil tys)))
theorem loops : ∀ c, Try.f127.body = some c → LoopsOk E H c := loops_none (by kernel_rfl)
theorem sound : Sound Try.prog 127 fs := fn_sound env mixed Try.func127 H loops fun ⟨x0, ()⟩ hw _ => (run x0).trans (eq x0 hw)
theorem known : Seen Try.prog 127 fs := ⟨sound, _, Try.func127, by kernel_rfl, by kernel_rfl⟩
end reader_cmd
namespace impl_noteIn_1
noncomputable def fs : FS := ⟨[(.cell 1 tyS55), (.ref tyS55 .f), (.ref tyS52 .o)], [], fun x => impl_noteIn_1.pre x.1 x.2.1, fun x => (((impl_noteIn_1 x.1 x.2.1).1, ((impl_noteIn_1 x.1 x.2.1).2, ())), ())⟩
noncomputable def we : WEnt := ⟨126, 126, fs, [(.par 0), (.par 2)], [(.arg 0), (.of 0), (.arg 1)]⟩
noncomputable def E : Env := ⟨theta, [(124, reader_num.fs), (127, reader_cmd.fs)], []⟩
noncomputable def H : List LC := []
noncomputable def code (i : Nat) : Code := (loopsOf (bodyOf Try.f126)).getD i .skip
theorem run (x0 : ((List Int) × (Int × (Bool × Unit)))) (x1 : Note) : runFnW E H Try.f126 fs.ps fs.rs we.real (x0, (x1, ())) = raw x0 x1 := by kernel_rfl
theorem env : EnvOk Try.prog E := env_cons reader_num.known (env_cons reader_cmd.known (env_nil tys))
theorem loops : ∀ c, Try.f126.body = some c → LoopsOk E H c := loops_none (by kernel_rfl)
theorem sound : SoundW Try.prog 126 fs we.real := fn_soundW env mixed Try.func126 H loops fun ⟨x0, x1, ()⟩ hw hp => (run x0 x1).trans (eq x0 x1 hw hp)
theorem known : SeenW Try.prog we := ⟨sound, _, Try.func126, by kernel_rfl, by kernel_rfl⟩
end impl_noteIn_1
namespace each_noteIn_1
noncomputable def fs : FS := ⟨[(.ref tyS55 .f), (.cell 0 tyS55), (.ref tyS52 .o)], [], fun x => each_noteIn_1.pre x.1 x.2.1, fun x => (((each_noteIn_1 x.1 x.2.1).1, ((each_noteIn_1 x.1 x.2.1).2, ())), ())⟩
noncomputable def we : WEnt := ⟨125, 126, fs, [(.par 0), (.clo 126 [1, 2])], [(.arg 0), (.cap 1 0), (.cap 1 1)]⟩
noncomputable def E : Env := ⟨theta, [(124, reader_num.fs)], [impl_noteIn_1.we]⟩
noncomputable def sh2 : ShSt := ⟨[(.one (.bptr 10000000 [] tyS55)), (.one (.clo 126 (.pair (.bptr 10000064 [] .op) (.pair (.bptr 10000128 [] tyS52) .unit)))), uu, uu, ui, ui, uu, uu, uu, uu, uu, uu, uu, uu, uu, uu, uu, uu, uu, uu, uu, uu], [(10000000, (.box tyS55 (.dat tyS55))), (10000064, (.box .op (.bptr 10000000 [] tyS55))), (10000128, (.box tyS52 (.pair (.dat (.int .i64)) (.pair (.dat (.int .i64)) (.pair (.dat (.int .i64)) (.pair (.dat (.int .i64)) (.pair (.arr 20000000) (.dat (.pair .str .unit))))))))), (20000000, (.arr 112 tyS51))]⟩
noncomputable def outs2 : List OutC := [⟨(.exit 0), ⟨0, [0, 1], []⟩, ⟨[(.one (.bptr 10000000 [] tyS55)), (.one (.clo 126 (.pair (.bptr 10000064 [] .op) (.pair (.bptr 10000128 [] tyS52) .unit)))), uu, uu, uu, uu, uu, uu, uu, uu, uu, uu, uu, uu, uu, uu, uu, uu, uu, uu, uu, uu], [(10000000, (.box tyS55 (.dat tyS55))), (10000064, (.box .op (.bptr 10000000 [] tyS55))), (10000128, (.box tyS52 (.pair (.dat (.int .i64)) (.pair (.dat (.int .i64)) (.pair (.dat (.int .i64)) (.pair (.dat (.int .i64)) (.pair (.arr 20000000) (.dat (.pair .str .unit))))))))), (20000000, (.arr 112 tyS51))]⟩⟩]
noncomputable def L2 : LC := ⟨2, ⟨2, [1, 0, 4, 5], []⟩, sh2, outs2, pre2, fn2⟩
noncomputable def H : List LC := [L2]
noncomputable def code (i : Nat) : Code := (loopsOf (bodyOf Try.f125)).getD i .skip
theorem step2 (x1 : Int) (x2 : Int) (x3 : ((List Int) × (Int × (Bool × Unit)))) (x4 : Int) (x5 : Int) (x6 : Int) (x7 : Int) (x8 : ((List UInt8) × Unit)) (x9 : (List Entry)) : L2.step E H (code 0) (x1, (x2, (x3, (x4, (x5, (x6, (x7, (x8, (x9, ()))))))))) = raw2 x1 x2 x3 x4 x5 x6 x7 x8 x9 := by kernel_rfl
theorem lok2 : LoopOk E H (code 0) L2 := ⟨mu2, fun ⟨x1, x2, x3, x4, x5, x6, x7, x8, x9, ()⟩ hp => rounds_ok (step2 x1 x2 x3 x4 x5 x6 x7 x8 x9) (ok2 x1 x2 x3 x4 x5 x6 x7 x8 x9 hp)⟩
theorem run (x0 : ((List Int) × (Int × (Bool × Unit)))) (x1 : Note) : runFnW E H Try.f125 fs.ps fs.rs we.real (x0, (x1, ())) = raw x0 x1 := by kernel_rfl
theorem env : EnvOk Try.prog E := env_cons reader_num.known (env_wire impl_noteIn_1.known (env_nil tys))
theorem loops : ∀ c, Try.f125.body = some c → LoopsOk E H c := loops_of (by kernel_rfl) (by kernel_rfl) fun i l h => match i, h with
  | 0, h => Option.some.inj h ▸ lok2
  | n + 1, h => by cases h
theorem sound : SoundW Try.prog 125 fs we.real := fn_soundW env mixed Try.func125 H loops fun ⟨x0, x1, ()⟩ hw hp => (run x0 x1).trans (eq x0 x1 hw hp)
theorem known : SeenW Try.prog we := ⟨sound, _, Try.func125, by kernel_rfl, by kernel_rfl⟩
end each_noteIn_1
namespace impl_noteIn
noncomputable def fs : FS := ⟨[(.val (.sl 5 (.int .u8)) .f)], [(tyS52, .o), (.bool, .o)], fun x => impl_noteIn.pre x.1, fun x => ((), ((impl_noteIn x.1).1, ((impl_noteIn x.1).2, ())))⟩
noncomputable def E : Env := ⟨theta, [(27, impl_NoteOk.fs), (124, reader_num.fs), (128, reader_text.fs)], [each_noteIn_1.we]⟩
noncomputable def H : List LC := []
noncomputable def code (i : Nat) : Code := (loopsOf (bodyOf Try.f98)).getD i .skip
theorem run (x0 : (List Int)) : runFn E H Try.f98 fs.ps fs.rs (x0, ()) = raw x0 := by kernel_rfl
theorem env : EnvOk Try.prog E := env_cons impl_NoteOk.known (env_cons reader_num.known (env_cons reader_text.known (env_wire each_noteIn_1.known (env_nil tys))))
theorem loops : ∀ c, Try.f98.body = some c → LoopsOk E H c := loops_none (by kernel_rfl)
theorem sound : Sound Try.prog 98 fs := fn_sound env mixed Try.func98 H loops fun ⟨x0, ()⟩ hw hp => (run x0).trans (eq x0 hw hp)
theorem known : Seen Try.prog 98 fs := ⟨sound, _, Try.func98, by kernel_rfl, by kernel_rfl⟩
end impl_noteIn
namespace spec_NoteOf
noncomputable def fs : FS := ⟨[(.val (.sl 5 (.int .u8)) .f), (.val (.int .i64) .f)], [(tyS52, .o), ((.int .i64), .o), (.bool, .o)], fun x => spec_NoteOf.pre x.1 x.2.1, fun x => ((), ((spec_NoteOf x.1 x.2.1).1, ((spec_NoteOf x.1 x.2.1).2.1, ((spec_NoteOf x.1 x.2.1).2.2, ()))))⟩
noncomputable def E : Env := ⟨theta, [(25, spec_NoteOk.fs), (89, spec_l9Sum.fs), (95, spec_GetNum.fs), (96, spec_l9Read.fs)], []⟩
noncomputable def H : List LC := []
noncomputable def code (i : Nat) : Code := (loopsOf (bodyOf Try.f50)).getD i .skip
theorem run (x0 : (List Int)) (x1 : Int) : runFn E H Try.f50 fs.ps fs.rs (x0, (x1, ())) = raw x0 x1 := by kernel_rfl
theorem env : EnvOk Try.prog E := env_cons spec_NoteOk.known (env_cons spec_l9Sum.known (env_cons spec_GetNum.known (env_cons spec_l9Read.known (env_nil tys))))
theorem loops : ∀ c, Try.f50.body = some c → LoopsOk E H c := loops_none (by kernel_rfl)
theorem sound : Sound Try.prog 50 fs := fn_sound env mixed Try.func50 H loops fun ⟨x0, x1, ()⟩ hw hp => (run x0 x1).trans (eq x0 x1 hw hp)
theorem known : Seen Try.prog 50 fs := ⟨sound, _, Try.func50, by kernel_rfl, by kernel_rfl⟩
end spec_NoteOf
namespace impl_NoteOf
noncomputable def fs : FS := ⟨[(.val (.sl 5 (.int .u8)) .f), (.val (.int .i64) .f)], [(tyS52, .o), ((.int .i64), .o), (.bool, .o)], fun x => impl_NoteOf.pre x.1 x.2.1, fun x => ((), ((impl_NoteOf x.1 x.2.1).1, ((impl_NoteOf x.1 x.2.1).2.1, ((impl_NoteOf x.1 x.2.1).2.2, ()))))⟩
noncomputable def E : Env := ⟨theta, [(45, impl_NoteBytes.fs), (97, impl_GetNum.fs), (98, impl_noteIn.fs)], []⟩
noncomputable def H : List LC := []
noncomputable def code (i : Nat) : Code := (loopsOf (bodyOf Try.f52)).getD i .skip
theorem run (x0 : (List Int)) (x1 : Int) : runFn E H Try.f52 fs.ps fs.rs (x0, (x1, ())) = raw x0 x1 := by kernel_rfl
theorem env : EnvOk Try.prog E := env_cons impl_NoteBytes.known (env_cons impl_GetNum.known (env_cons impl_noteIn.known (env_nil tys)))
theorem loops : ∀ c, Try.f52.body = some c → LoopsOk E H c := loops_none (by kernel_rfl)
theorem sound : Sound Try.prog 52 fs := fn_sound env mixed Try.func52 H loops fun ⟨x0, x1, ()⟩ hw hp => (run x0 x1).trans (eq x0 x1 hw hp)
theorem known : Seen Try.prog 52 fs := ⟨sound, _, Try.func52, by kernel_rfl, by kernel_rfl⟩
end impl_NoteOf
namespace laws_eqNoteS
noncomputable def fs : FS := ⟨[(.val (.sl 42 tyS52) .f), (.val (.sl 42 tyS52) .f)], [(.bool, .o)], fun _ => true, fun x => ((), ((laws_eqNoteS x.1 x.2.1), ()))⟩
noncomputable def E : Env := ⟨theta, [(28, laws_eqNote.fs)], []⟩
noncomputable def sh4 : ShSt := ⟨[(.one (.dat (.sl 42 tyS52))), (.one (.dat (.sl 42 tyS52))), uu, uu, uu, ui, uu, uu, uu, uu, uu, uu, uu, uu, uu, uu, uu, uu, uu, uu, uu, uu, uu, uu, uu, uu, uu], []⟩
noncomputable def outs4 : List OutC := [⟨.ret, ⟨0, [4], []⟩, ⟨[uu, uu, uu, uu, (.one (.dat .bool)), uu, uu, uu, uu, uu, uu, uu, uu, uu, uu, uu, uu, uu, uu, uu, uu, uu, uu, uu, uu, uu, uu], []⟩⟩, ⟨(.exit 0), ⟨0, [], []⟩, ⟨[uu, uu, uu, uu, uu, uu, uu, uu, uu, uu, uu, uu, uu, uu, uu, uu, uu, uu, uu, uu, uu, uu, uu, uu, uu, uu, uu], []⟩⟩]
noncomputable def L4 : LC := ⟨4, ⟨4, [1, 0, 5], []⟩, sh4, outs4, pre4, fn4⟩
noncomputable def H : List LC := [L4]
noncomputable def code (i : Nat) : Code := (loopsOf (bodyOf Try.f56)).getD i .skip
theorem step4 (x1 : (List Note)) (x2 : (List Note)) (x3 : Int) : L4.step E H (code 0) (x1, (x2, (x3, ()))) = raw4 x1 x2 x3 := by kernel_rfl
theorem lok4 : LoopOk E H (code 0) L4 := ⟨mu4, fun ⟨x1, x2, x3, ()⟩ hp => rounds_ok (step4 x1 x2 x3) (ok4 x1 x2 x3 hp)⟩
theorem run (x0 : (List Note)) (x1 : (List Note)) : runFn E H Try.f56 fs.ps fs.rs (x0, (x1, ())) = raw x0 x1 := by kernel_rfl
theorem env : EnvOk Try.prog E := env_cons laws_eqNote.known (env_nil tys)
theorem loops : ∀ c, Try.f56.body = some c → LoopsOk E H c := loops_of (by kernel_rfl) (by kernel_rfl) fun i l h => match i, h with
  | 0, h => Option.some.inj h ▸ lok4
  | n + 1, h => by cases h
theorem sound : Sound Try.prog 56 fs := fn_sound env mixed Try.func56 H loops fun ⟨x0, x1, ()⟩ hw _ => (run x0 x1).trans (eq x0 x1 hw)
theorem known : Seen Try.prog 56 fs := ⟨sound, _, Try.func56, by kernel_rfl, by kernel_rfl⟩
end laws_eqNoteS
namespace laws_markNoteS
noncomputable def fs : FS := ⟨[(.mut (.sl 42 tyS52)), (.val (.int .i64) .f)], [((.int .i64), .o)], fun x => laws_markNoteS.pre x.1 x.2.1, fun x => (((laws_markNoteS x.1 x.2.1).1, ()), ((laws_markNoteS x.1 x.2.1).2, ()))⟩
noncomputable def E : Env := ⟨theta, [(86, laws_markText.fs), (43, laws_markEntryS.fs)], []⟩
noncomputable def sh2 : ShSt := ⟨[(.one (.arr 40000001)), ui, uu, uu, uu, ui, uu, uu, uu, uu, uu, uu, uu, uu, uu, uu, uu, uu, uu, uu, uu, uu, uu, uu, uu, uu, uu, uu, uu, uu, uu, uu, uu, uu, uu, uu, uu, uu, uu, uu, uu, uu, uu, uu, uu, uu, uu, uu, uu, uu, uu, uu, uu, uu, uu, uu], [(40000001, (.arr 42 tyS52))]⟩
noncomputable def outs2 : List OutC := [⟨(.exit 0), ⟨0, [1, 0], []⟩, ⟨[(.one (.arr 40000001)), ui, uu, uu, uu, uu, uu, uu, uu, uu, uu, uu, uu, uu, uu, uu, uu, uu, uu, uu, uu, uu, uu, uu, uu, uu, uu, uu, uu, uu, uu, uu, uu, uu, uu, uu, uu, uu, uu, uu, uu, uu, uu, uu, uu, uu, uu, uu, uu, uu, uu, uu, uu, uu, uu, uu], [(40000001, (.arr 42 tyS52))]⟩⟩]
noncomputable def L2 : LC := ⟨2, ⟨2, [0, 5, 1], []⟩, sh2, outs2, pre2, fn2⟩
noncomputable def H : List LC := [L2]
noncomputable def code (i : Nat) : Code := (loopsOf (bodyOf Try.f57)).getD i .skip
theorem step2 (x1 : Int) (x2 : Int) (x3 : (List Note)) : L2.step E H (code 0) (x1, (x2, (x3, ()))) = raw2 x1 x2 x3 := by kernel_rfl
theorem lok2 : LoopOk E H (code 0) L2 := ⟨mu2, fun ⟨x1, x2, x3, ()⟩ hp => rounds_ok (step2 x1 x2 x3) (ok2 x1 x2 x3 hp)⟩
theorem run (x0 : (List Note)) (x1 : Int) : runFn E H Try.f57 fs.ps fs.rs (x0, (x1, ())) = raw x0 x1 := by kernel_rfl
theorem env : EnvOk Try.prog E := env_cons laws_markText.known (env_cons laws_markEntryS.known (env_nil tys))
theorem loops : ∀ c, Try.f57.body = some c → LoopsOk E H c := loops_of (by kernel_rfl) (by kernel_rfl) fun i l h => match i, h with
  | 0, h => Option.some.inj h ▸ lok2
  | n + 1, h => by cases h
theorem sound : Sound Try.prog 57 fs := fn_sound env mixed Try.func57 H loops fun ⟨x0, x1, ()⟩ hw hp => (run x0 x1).trans (eq x0 x1 hw hp)
theorem known : Seen Try.prog 57 fs := ⟨sound, _, Try.func57, by kernel_rfl, by kernel_rfl⟩
end laws_markNoteS
namespace laws_heldNoteS
noncomputable def fs : FS := ⟨[(.val (.sl 42 tyS52) .f), (.val (.int .i64) .f)], [((.int .i64), .o)], fun x => laws_heldNoteS.pre x.1 x.2.1, fun x => ((), ((laws_heldNoteS x.1 x.2.1), ()))⟩
noncomputable def E : Env := ⟨theta, [(86, laws_markText.fs), (80, laws_heldEntryS.fs)], []⟩
noncomputable def sh2 : ShSt := ⟨[(.one (.dat (.sl 42 tyS52))), ui, uu, uu, uu, ui, uu, uu, uu, uu, uu, uu, uu, uu, uu, uu, uu, uu, uu, uu, uu, uu, uu, uu, uu, uu, uu, uu, uu, uu, uu, uu, uu, uu, uu, uu, uu, uu, uu, uu, uu, uu, uu, uu, uu, uu, uu, uu, uu, uu, uu, uu, uu, uu, uu, uu, uu, uu, uu, uu, uu, uu, uu, uu, uu, uu, uu, uu], []⟩
noncomputable def outs2 : List OutC := [⟨.ret, ⟨0, [4], []⟩, ⟨[uu, uu, uu, uu, ui, uu, uu, uu, uu, uu, uu, uu, uu, uu, uu, uu, uu, uu, uu, uu, uu, uu, uu, uu, uu, uu, uu, uu, uu, uu, uu, uu, uu, uu, uu, uu, uu, uu, uu, uu, uu, uu, uu, uu, uu, uu, uu, uu, uu, uu, uu, uu, uu, uu, uu, uu, uu, uu, uu, uu, uu, uu, uu, uu, uu, uu, uu, uu], []⟩⟩, ⟨(.exit 0), ⟨0, [1], []⟩, ⟨[uu, ui, uu, uu, uu, uu, uu, uu, uu, uu, uu, uu, uu, uu, uu, uu, uu, uu, uu, uu, uu, uu, uu, uu, uu, uu, uu, uu, uu, uu, uu, uu, uu, uu, uu, uu, uu, uu, uu, uu, uu, uu, uu, uu, uu, uu, uu, uu, uu, uu, uu, uu, uu, uu, uu, uu, uu, uu, uu, uu, uu, uu, uu, uu, uu, uu, uu, uu], []⟩⟩]
noncomputable def L2 : LC := ⟨2, ⟨2, [0, 5, 1], []⟩, sh2, outs2, pre2, fn2⟩
noncomputable def H : List LC := [L2]
noncomputable def code (i : Nat) : Code := (loopsOf (bodyOf Try.f58)).getD i .skip
theorem step2 (x1 : (List Note)) (x2 : Int) (x3 : Int) : L2.step E H (code 0) (x1, (x2, (x3, ()))) = raw2 x1 x2 x3 := by kernel_rfl
theorem lok2 : LoopOk E H (code 0) L2 := ⟨mu2, fun ⟨x1, x2, x3, ()⟩ hp => rounds_ok (step2 x1 x2 x3) (ok2 x1 x2 x3 hp)⟩
theorem run (x0 : (List Note)) (x1 : Int) : runFn E H Try.f58 fs.ps fs.rs (x0, (x1, ())) = raw x0 x1 := by kernel_rfl
theorem env : EnvOk Try.prog E := env_cons laws_markText.known (env_cons laws_heldEntryS.known (env_nil tys))
theorem loops : ∀ c, Try.f58.body = some c → LoopsOk E H c := loops_of (by kernel_rfl) (by kernel_rfl) fun i l h => match i, h with
  | 0, h => Option.some.inj h ▸ lok2
  | n + 1, h => by cases h
theorem sound : Sound Try.prog 58 fs := fn_sound env mixed Try.func58 H loops fun ⟨x0, x1, ()⟩ hw hp => (run x0 x1).trans (eq x0 x1 hw hp)
theorem known : Seen Try.prog 58 fs := ⟨sound, _, Try.func58, by kernel_rfl, by kernel_rfl⟩
end laws_heldNoteS
namespace spec_Notes
noncomputable def fs : FS := ⟨[(.val (.sl 5 (.int .u8)) .f)], [((.sl 42 tyS52), .o), ((.int .i64), .o)], fun x => spec_Notes.pre x.1, fun x => ((), ((spec_Notes x.1).1, ((spec_Notes x.1).2, ())))⟩
noncomputable def E : Env := ⟨theta, [(50, spec_NoteOf.fs)], []⟩
noncomputable def sh3 : ShSt := ⟨[(.one (.dat (.sl 5 (.int .u8)))), uu, uu, uu, (.one (.arr 20000000)), ui, uu, uu, uu, uu, uu, uu, uu, uu, uu, uu, uu, uu, uu, uu, uu, uu, uu, uu, uu, uu, uu, uu, uu, uu], [(20000000, (.arr 42 tyS52))]⟩
noncomputable def outs3 : List OutC := [⟨(.exit 0), ⟨0, [5, 4], [(4, (42, tyS52))]⟩, ⟨[uu, uu, uu, uu, (.one (.arr 20000000)), ui, uu, uu, uu, uu, uu, uu, uu, uu, uu, uu, uu, uu, uu, uu, uu, uu, uu, uu, uu, uu, uu, uu, uu, uu], [(20000000, (.arr 42 tyS52))]⟩⟩]
noncomputable def L3 : LC := ⟨3, ⟨3, [5, 4, 0], [(4, (42, tyS52))]⟩, sh3, outs3, pre3, fn3⟩
noncomputable def H : List LC := [L3]
noncomputable def code (i : Nat) : Code := (loopsOf (bodyOf Try.f54)).getD i .skip
theorem step3 (x1 : (List Int)) (x2 : Int) (x3 : (List Note)) : L3.step E H (code 0) (x1, (x2, (x3, ()))) = raw3 x1 x2 x3 := by kernel_rfl
theorem lok3 : LoopOk E H (code 0) L3 := ⟨mu3, fun ⟨x1, x2, x3, ()⟩ hp => rounds_ok (step3 x1 x2 x3) (ok3 x1 x2 x3 hp)⟩
theorem run (x0 : (List Int)) : runFn E H Try.f54 fs.ps fs.rs (x0, ()) = raw x0 := by kernel_rfl
theorem env : EnvOk Try.prog E := env_cons spec_NoteOf.known (env_nil tys)
theorem loops : ∀ c, Try.f54.body = some c → LoopsOk E H c := loops_of (by kernel_rfl) (by kernel_rfl) fun i l h => match i, h with
  | 0, h => Option.some.inj h ▸ lok3
  | n + 1, h => by cases h
theorem sound : Sound Try.prog 54 fs := fn_sound env mixed Try.func54 H loops fun ⟨x0, ()⟩ hw hp => (run x0).trans (eq x0 hw hp)
theorem known : Seen Try.prog 54 fs := ⟨sound, _, Try.func54, by kernel_rfl, by kernel_rfl⟩
end spec_Notes
namespace impl_Notes
noncomputable def fs : FS := ⟨[(.val (.sl 5 (.int .u8)) .f)], [((.sl 42 tyS52), .o), ((.int .i64), .o)], fun x => impl_Notes.pre x.1, fun x => ((), ((impl_Notes x.1).1, ((impl_Notes x.1).2, ())))⟩
noncomputable def E : Env := ⟨theta, [(52, impl_NoteOf.fs)], []⟩
noncomputable def sh3 : ShSt := ⟨[(.one (.dat (.sl 5 (.int .u8)))), uu, uu, uu, (.one (.arr 20000000)), ui, uu, uu, uu, uu, uu, uu, uu, uu, uu, uu, uu, uu, uu, uu, uu, uu, uu, uu, uu], [(20000000, (.arr 42 tyS52))]⟩
noncomputable def outs3 : List OutC := [⟨.ret, ⟨0, [2, 3], [(2, (42, tyS52))]⟩, ⟨[uu, uu, (.one (.arr 20000000)), ui, uu, uu, uu, uu, uu, uu, uu, uu, uu, uu, uu, uu, uu, uu, uu, uu, uu, uu, uu, uu, uu], [(20000000, (.arr 42 tyS52))]⟩⟩]
noncomputable def L3 : LC := ⟨3, ⟨3, [5, 4, 0], [(4, (42, tyS52))]⟩, sh3, outs3, pre3, fn3⟩
noncomputable def H : List LC := [L3]
noncomputable def code (i : Nat) : Code := (loopsOf (bodyOf Try.f55)).getD i .skip
theorem step3 (x1 : (List Int)) (x2 : Int) (x3 : (List Note)) : L3.step E H (code 0) (x1, (x2, (x3, ()))) = raw3 x1 x2 x3 := by kernel_rfl
theorem lok3 : LoopOk E H (code 0) L3 := ⟨mu3, fun ⟨x1, x2, x3, ()⟩ hp => rounds_ok (step3 x1 x2 x3) (ok3 x1 x2 x3 hp)⟩
theorem run (x0 : (List Int)) : runFn E H Try.f55 fs.ps fs.rs (x0, ()) = raw x0 := by kernel_rfl
theorem env : EnvOk Try.prog E := env_cons impl_NoteOf.known (env_nil tys)
theorem loops : ∀ c, Try.f55.body = some c → LoopsOk E H c := loops_of (by kernel_rfl) (by kernel_rfl) fun i l h => match i, h with
  | 0, h => Option.some.inj h ▸ lok3
  | n + 1, h => by cases h
theorem sound : Sound Try.prog 55 fs := fn_sound env mixed Try.func55 H loops fun ⟨x0, ()⟩ hw hp => (run x0).trans (eq x0 hw hp)
theorem known : Seen Try.prog 55 fs := ⟨sound, _, Try.func55, by kernel_rfl, by kernel_rfl⟩
end impl_Notes
namespace laws_FnExactNotes
noncomputable def fs : FS := ⟨[(.val (.sl 5 (.int .u8)) .f)], [(.bool, .o)], fun _ => true, fun x => ((), ((laws_FnExactNotes x.1), ()))⟩
noncomputable def E : Env := ⟨theta, [(46, laws_eqByteS.fs), (48, laws_markByteS.fs), (51, laws_toByteS.fs), (56, laws_eqNoteS.fs), (57, laws_markNoteS.fs), (58, laws_heldNoteS.fs), (54, spec_Notes.fs), (55, impl_Notes.fs)], []⟩
noncomputable def H : List LC := []
noncomputable def code (i : Nat) : Code := (loopsOf (bodyOf Try.f12)).getD i .skip
theorem run (x0 : (List Int)) : runFn E H Try.f12 fs.ps fs.rs (x0, ()) = raw x0 := by kernel_rfl
theorem env : EnvOk Try.prog E := env_cons laws_eqByteS.known (env_cons laws_markByteS.known (env_cons laws_toByteS.known (env_cons laws_eqNoteS.known (env_cons laws_markNoteS.known (env_cons laws_heldNoteS.known (env_cons spec_Notes.known (env_cons impl_Notes.known (env_nil tys))))))))
theorem loops : ∀ c, Try.f12.body = some c → LoopsOk E H c := loops_none (by kernel_rfl)
theorem sound : Sound Try.prog 12 fs := fn_sound env mixed Try.func12 H loops fun ⟨x0, ()⟩ hw _ => (run x0).trans (eq x0 hw)
theorem known : Seen Try.prog 12 fs := ⟨sound, _, Try.func12, by kernel_rfl, by kernel_rfl⟩
end laws_FnExactNotes
end Go.Aw.Pl
namespace Go.Proofs.Ytdgpjdedpkpfhaa.fnExactNotes
open Go Go.Aw Go.Aw.Pl
theorem own : ownKnob Try.prog.godebug = none := by kernel_rfl
theorem laidOut : laidOutB Try.prog = true := by kernel_rfl
theorem lifted (os : Os) (started : os.Started) (H : Type) (enc : TypeId × Value → H) :
    ReturnsInHanded {} Try.checked os 12 .any (Rows.fnExactNotesSpec.pre6 enc Try.prog Try.f12 Rows.fnExactNotesRow.domain false) (Rows.fnExactNotesSpec.post enc Try.prog Try.f12 false true false false) :=
  law_lifted (C := Try.checked) (Ts := [(.sl 5 (.int .u8))]) (md := .o) (g := laws_FnExactNotes.fs.fn) started own laidOut (by kernel_rfl) Try.func12 laws_FnExactNotes.sound (fun _ _ => rfl) (by kernel_rfl) rfl Try.underlying4 rfl
    (fun _ ds h => match ds, h with
      | [_], _ => ⟨rfl, rfl, rfl⟩)
    (ChangeSpec.witness6 (enc := enc) (C := Try.checked) false ⟨#[], #[(.slice none 0 0)], []⟩ 24 (by kernel_rfl) (by kernel_rfl) (by kernel_rfl) (by kernel_rfl))
theorem over : Rows.fnExactNotesRow.holds Try.pinned (OpenSpec.ofChange Rows.fnExactNotesSpec) :=
  OpenClaim.holds_of_wide 12 Try.f12 rfl rfl rfl rfl rfl rfl rfl ⟨rfl, rfl, rfl, rfl, rfl⟩ rfl rfl rfl rfl rfl (by kernel_rfl) Try.func12 (by kernel_rfl)
    (of_decide_eq_true (by kernel_rfl)) (by unfold Func.isWrapper; first | (rw [if_pos (by decide +kernel)]; kernel_rfl) | (rw [if_neg (by decide +kernel)]; exact ⟨rfl, rfl⟩))
    (fun os started H enc _ => lifted os started H enc)
theorem proved : Rows.FnExactNotesSaid := over
end Go.Proofs.Ytdgpjdedpkpfhaa.fnExactNotes
