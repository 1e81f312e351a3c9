/-
  These laws hold: FnNoSpill: each answers true for every input, and nothing of its arguments is changed. Conditions: those of the given statements alone.
  Printed by a program of the proof's author: what each function does, by the plain machine (the texts Aw.. and Ax..), and the rows at the end.
-/
import Derived.Test.YtpcdhadfpeojkaaRows
import Derived.JoinedOf
import Derived.Test.YtpcdhadfpeojkaaPsc
namespace Go.Aw.Pl
open Go Go.Aw Go.Proofs
set_option linter.unusedVariables false
set_option maxRecDepth 20000
set_option maxHeartbeats 2000000
noncomputable section
noncomputable abbrev uu : ShS := .one .undef
noncomputable abbrev ui : ShS := .one (.dat (.int .i64))
noncomputable def un : Nat → List ShS → List ShS
  | 0, l => l
  | n + 1, l => uu :: un n l
abbrev tyS36 : Ty := .pair (.int .i64) (.pair (.sl 3 (.int .i64)) (.pair (.sl 3 (.int .i64)) (.pair (.sl 3 (.int .i64)) .unit)))
abbrev tyS38 : Ty := .pair (.int .i64) (.pair (.int .i64) .unit)
abbrev tyS35 : Ty := .pair (.int .i64) (.pair (.int .i64) (.pair (.int .i64) (.pair (.int .i64) (.pair (.sl 205 tyS38) .unit))))
abbrev tyS39 : Ty := .pair (.int .i64) (.pair (.int .i64) (.pair .str (.pair .str .unit)))
abbrev tyS32 : Ty := .pair (.int .i64) (.pair (.int .i64) (.pair (.int .i64) (.pair (.int .i64) tyS39)))
abbrev tyS37 : Ty := .pair (.int .i64) (.pair (.int .i64) (.pair (.int .i64) (.pair (.int .i64) (.pair (.sl 89 (.pair (.int .i64) (.pair tyS32 .unit))) (.pair .str .unit)))))
abbrev tyS312 : Ty := .pair (.sl 5 (.int .u8)) (.pair (.int .i64) (.pair .bool .unit))
abbrev tyS313 : Ty := .pair (.int .i64) (.pair .str (.pair .str tyS38))
abbrev tyS33 : Ty := .pair (.int .i64) (.pair (.int .i64) (.pair (.sl 200 tyS313) .unit))
abbrev tyS31 : Ty := .pair (.sl 197 tyS33) (.pair (.sl 203 tyS35) (.pair (.sl 207 tyS36) (.pair (.int .i64) (.pair (.sl 3 (.int .i64)) (.pair (.sl 101 tyS39) .unit)))))
abbrev tyS34 : Ty := .pair (.sl 263 (.pair (.int .i64) (.pair (.int .i64) (.pair (.sl 298 tyS313) .unit)))) (.pair (.sl 267 (.pair (.int .i64) (.pair (.int .i64) (.pair (.int .i64) (.pair (.int .i64) (.pair (.sl 301 tyS38) .unit)))))) (.pair (.sl 269 tyS36) (.pair (.int .i64) (.pair (.sl 3 (.int .i64)) (.pair (.sl 170 tyS39) .unit)))))
abbrev tyS314 : Ty := .pair (.int .i64) (.pair (.int .i64) (.pair (.int .i64) (.pair (.int .i64) (.pair (.int .i64) (.pair (.int .i64) (.pair (.int .i64) (.pair (.sl 243 (.pair (.int .i64) (.pair tyS32 .unit))) (.pair .bool (.pair .str .unit)))))))))
abbrev tyS310 : Ty := .pair (.int .i64) (.pair (.pair (.int .i64) (.pair (.int .i64) (.pair (.pair (.int .i64) (.pair (.int .i64) (.pair (.sl 243 (.pair (.int .i64) (.pair tyS32 .unit))) .unit))) (.pair tyS34 .unit)))) (.pair (.int .i64) (.pair (.sl 4 .bool) (.pair (.sl 3 (.int .i64)) (.pair (.sl 3 (.int .i64)) (.pair (.int .i64) (.pair tyS34 (.pair (.pair (.sl 5 (.int .u8)) (.pair (.int .i64) .unit)) (.pair (.sl 166 tyS314) .unit)))))))))
abbrev tyS315 : Ty := .pair (.int .i64) (.pair (.int .i64) (.pair (.int .i64) (.pair (.int .i64) (.pair (.int .i64) (.pair (.int .i64) (.pair (.int .i64) (.pair (.sl 89 (.pair (.int .i64) (.pair tyS32 .unit))) (.pair .bool (.pair .str .unit)))))))))
abbrev tyS311 : Ty := .pair (.int .i64) (.pair (.pair (.int .i64) (.pair (.int .i64) (.pair (.pair (.int .i64) (.pair (.int .i64) (.pair (.sl 89 (.pair (.int .i64) (.pair tyS32 .unit))) .unit))) (.pair tyS31 .unit)))) (.pair (.int .i64) (.pair (.sl 4 .bool) (.pair (.sl 3 (.int .i64)) (.pair (.sl 3 (.int .i64)) (.pair (.int .i64) (.pair tyS31 (.pair (.pair (.sl 5 (.int .u8)) (.pair (.int .i64) .unit)) (.pair (.sl 181 tyS315) .unit)))))))))
abbrev tyS316 : Ty := .pair (.int .i64) (.pair (.int .i64) tyS38)
noncomputable def theta : List (TypeId × Ty) := [(1, .op),
  (2, (.int .i64)),
  (3, (.int .i64)),
  (4, .bool),
  (5, (.int .u8)),
  (6, (.int .u8)),
  (7, (.pair (.int .i64) (.pair (.int .i64) (.pair .bool (.pair (.int .u8) .unit))))),
  (8, (.pair (.int .i64) (.pair (.int .i64) (.pair .bool (.pair (.int .u8) .unit))))),
  (9, .str),
  (10, .str),
  (11, .str),
  (12, (.int .u64)),
  (15, .op),
  (16, .op),
  (17, .op),
  (21, (.int .i32)),
  (22, (.sl 5 (.int .u8))),
  (23, .op),
  (24, (.pair (.sl 5 (.int .u8)) (.pair (.int .i64) .unit))),
  (25, (.pair (.sl 5 (.int .u8)) (.pair (.int .i64) .unit))),
  (27, .op),
  (28, .op),
  (30, .op),
  (32, .op),
  (33, .op),
  (34, .op),
  (35, .op),
  (37, .op),
  (38, (.sl 89 (.pair (.int .i64) (.pair tyS32 .unit)))),
  (39, tyS37),
  (40, tyS37),
  (42, .op),
  (43, .op),
  (44, .op),
  (45, tyS316),
  (46, tyS316),
  (47, (.sl 163 tyS310)),
  (48, (.sl 166 tyS314)),
  (49, (.sl 168 tyS32)),
  (50, (.sl 3 (.int .i64))),
  (51, (.sl 172 (.pair (.int .i64) (.pair (.int .i64) (.pair tyS39 tyS38))))),
  (52, (.pair tyS316 (.pair (.int .i64) (.pair (.sl 163 tyS310) (.pair (.sl 166 tyS314) (.pair (.sl 168 tyS32) (.pair (.sl 3 (.int .i64)) (.pair (.sl 172 (.pair (.int .i64) (.pair (.int .i64) (.pair tyS39 tyS38)))) (.pair (.sl 168 tyS32) .unit))))))))),
  (53, (.pair tyS316 (.pair (.int .i64) (.pair (.sl 163 tyS310) (.pair (.sl 166 tyS314) (.pair (.sl 168 tyS32) (.pair (.sl 3 (.int .i64)) (.pair (.sl 172 (.pair (.int .i64) (.pair (.int .i64) (.pair tyS39 tyS38)))) (.pair (.sl 168 tyS32) .unit))))))))),
  (54, .op),
  (55, .op),
  (56, tyS316),
  (57, (.sl 178 tyS311)),
  (58, (.sl 181 tyS315)),
  (59, (.sl 87 tyS32)),
  (60, (.sl 103 (.pair (.int .i64) (.pair (.int .i64) (.pair tyS39 tyS38))))),
  (61, (.pair tyS316 (.pair (.int .i64) (.pair (.sl 178 tyS311) (.pair (.sl 181 tyS315) (.pair (.sl 87 tyS32) (.pair (.sl 3 (.int .i64)) (.pair (.sl 103 (.pair (.int .i64) (.pair (.int .i64) (.pair tyS39 tyS38)))) (.pair (.sl 87 tyS32) .unit))))))))),
  (62, (.pair tyS316 (.pair (.int .i64) (.pair (.sl 178 tyS311) (.pair (.sl 181 tyS315) (.pair (.sl 87 tyS32) (.pair (.sl 3 (.int .i64)) (.pair (.sl 103 (.pair (.int .i64) (.pair (.int .i64) (.pair tyS39 tyS38)))) (.pair (.sl 87 tyS32) .unit))))))))),
  (63, .op),
  (64, .op),
  (65, .op),
  (66, .op),
  (67, .op),
  (68, .op),
  (69, .op),
  (70, .op),
  (71, .op),
  (72, .op),
  (73, .op),
  (74, .op),
  (76, .op),
  (78, .op),
  (79, .op),
  (80, .op),
  (81, tyS312),
  (82, tyS312),
  (83, .op),
  (84, .op),
  (85, .op),
  (86, tyS32),
  (87, tyS32),
  (88, (.pair (.int .i64) (.pair tyS32 .unit))),
  (89, (.pair (.int .i64) (.pair tyS32 .unit))),
  (90, .op),
  (91, .op),
  (92, .op),
  (93, .op),
  (94, (.int .u64)),
  (95, .op),
  (96, .op),
  (97, .op),
  (98, .op),
  (99, .op),
  (100, tyS39),
  (101, tyS39),
  (102, (.pair (.int .i64) (.pair (.int .i64) (.pair tyS39 tyS38)))),
  (103, (.pair (.int .i64) (.pair (.int .i64) (.pair tyS39 tyS38)))),
  (104, .op),
  (105, .op),
  (106, .op),
  (107, .op),
  (108, .op),
  (109, .op),
  (110, .op),
  (111, .op),
  (112, .op),
  (113, .op),
  (114, .op),
  (115, .op),
  (116, .op),
  (117, .op),
  (118, (.pair (.sl 5 (.int .u8)) tyS38)),
  (119, (.pair (.sl 5 (.int .u8)) tyS38)),
  (120, .op),
  (121, .op),
  (122, (.sl 197 tyS33)),
  (123, (.sl 203 tyS35)),
  (124, (.sl 207 tyS36)),
  (125, (.sl 101 tyS39)),
  (126, tyS31),
  (127, tyS31),
  (129, .op),
  (130, .op),
  (131, .op),
  (132, .op),
  (133, tyS312),
  (134, tyS312),
  (135, .op),
  (136, .op),
  (137, .op),
  (138, .op),
  (139, .op),
  (140, .op),
  (141, .op),
  (142, .op),
  (143, .op),
  (144, .op),
  (145, .op),
  (146, (.sl 22 (.sl 5 (.int .u8)))),
  (147, .op),
  (148, .op),
  (149, (.sl 243 (.pair (.int .i64) (.pair tyS32 .unit)))),
  (150, (.pair (.int .i64) (.pair (.int .i64) (.pair (.sl 243 (.pair (.int .i64) (.pair tyS32 .unit))) .unit)))),
  (151, (.pair (.int .i64) (.pair (.int .i64) (.pair (.sl 243 (.pair (.int .i64) (.pair tyS32 .unit))) .unit)))),
  (152, (.sl 263 (.pair (.int .i64) (.pair (.int .i64) (.pair (.sl 298 tyS313) .unit))))),
  (153, (.sl 267 (.pair (.int .i64) (.pair (.int .i64) (.pair (.int .i64) (.pair (.int .i64) (.pair (.sl 301 tyS38) .unit))))))),
  (154, (.sl 269 tyS36)),
  (155, (.sl 170 tyS39)),
  (156, tyS34),
  (157, tyS34),
  (158, (.pair (.int .i64) (.pair (.int .i64) (.pair (.pair (.int .i64) (.pair (.int .i64) (.pair (.sl 243 (.pair (.int .i64) (.pair tyS32 .unit))) .unit))) (.pair tyS34 .unit))))),
  (159, (.pair (.int .i64) (.pair (.int .i64) (.pair (.pair (.int .i64) (.pair (.int .i64) (.pair (.sl 243 (.pair (.int .i64) (.pair tyS32 .unit))) .unit))) (.pair tyS34 .unit))))),
  (160, (.sl 4 .bool)),
  (161, (.pair (.sl 5 (.int .u8)) (.pair (.int .i64) .unit))),
  (162, tyS310),
  (163, tyS310),
  (164, .op),
  (165, tyS314),
  (166, tyS314),
  (167, .op),
  (168, tyS32),
  (169, .op),
  (170, tyS39),
  (171, (.pair (.int .i64) (.pair (.int .i64) (.pair tyS39 tyS38)))),
  (172, (.pair (.int .i64) (.pair (.int .i64) (.pair tyS39 tyS38)))),
  (173, (.pair (.int .i64) (.pair (.int .i64) (.pair (.sl 89 (.pair (.int .i64) (.pair tyS32 .unit))) .unit)))),
  (174, (.pair (.int .i64) (.pair (.int .i64) (.pair (.sl 89 (.pair (.int .i64) (.pair tyS32 .unit))) .unit)))),
  (175, (.pair (.int .i64) (.pair (.int .i64) (.pair (.pair (.int .i64) (.pair (.int .i64) (.pair (.sl 89 (.pair (.int .i64) (.pair tyS32 .unit))) .unit))) (.pair tyS31 .unit))))),
  (176, (.pair (.int .i64) (.pair (.int .i64) (.pair (.pair (.int .i64) (.pair (.int .i64) (.pair (.sl 89 (.pair (.int .i64) (.pair tyS32 .unit))) .unit))) (.pair tyS31 .unit))))),
  (177, tyS311),
  (178, tyS311),
  (179, .op),
  (180, tyS315),
  (181, tyS315),
  (182, .op),
  (183, .op),
  (184, .op),
  (185, .op),
  (186, .op),
  (187, .op),
  (188, .op),
  (189, .op),
  (190, .op),
  (191, .op),
  (193, .op),
  (194, .op),
  (195, (.sl 200 tyS313)),
  (196, tyS33),
  (197, tyS33),
  (198, .op),
  (199, tyS313),
  (200, tyS313),
  (201, (.sl 205 tyS38)),
  (202, tyS35),
  (203, tyS35),
  (204, tyS38),
  (205, tyS38),
  (206, tyS36),
  (207, tyS36),
  (208, .op),
  (210, .op),
  (211, .op),
  (212, .op),
  (213, .op),
  (214, .op),
  (215, .op),
  (216, .op),
  (217, .op),
  (218, .op),
  (219, .op),
  (220, .op),
  (221, .op),
  (222, .op),
  (223, .op),
  (224, .op),
  (225, .op),
  (226, .op),
  (227, .op),
  (228, .op),
  (229, .op),
  (230, .op),
  (231, .op),
  (232, .op),
  (234, .op),
  (235, .op),
  (236, .op),
  (237, .op),
  (238, .op),
  (239, .op),
  (240, .op),
  (241, .op),
  (242, (.pair (.int .i64) (.pair tyS32 .unit))),
  (243, (.pair (.int .i64) (.pair tyS32 .unit))),
  (244, .op),
  (245, .op),
  (246, .op),
  (247, .op),
  (248, .op),
  (249, .op),
  (250, .op),
  (251, .op),
  (252, .op),
  (253, .op),
  (254, .op),
  (255, .op),
  (256, .op),
  (257, .op),
  (258, .op),
  (259, .op),
  (260, .op),
  (261, (.sl 298 tyS313)),
  (262, (.pair (.int .i64) (.pair (.int .i64) (.pair (.sl 298 tyS313) .unit)))),
  (263, (.pair (.int .i64) (.pair (.int .i64) (.pair (.sl 298 tyS313) .unit)))),
  (264, .op),
  (265, (.sl 301 tyS38)),
  (266, (.pair (.int .i64) (.pair (.int .i64) (.pair (.int .i64) (.pair (.int .i64) (.pair (.sl 301 tyS38) .unit)))))),
  (267, (.pair (.int .i64) (.pair (.int .i64) (.pair (.int .i64) (.pair (.int .i64) (.pair (.sl 301 tyS38) .unit)))))),
  (268, .op),
  (269, tyS36),
  (270, .op),
  (271, .op),
  (272, .op),
  (273, .op),
  (274, .op),
  (275, .op),
  (276, .op),
  (277, .op),
  (278, .op),
  (279, .op),
  (280, .op),
  (281, (.sl 9 .str)),
  (282, .op),
  (283, .op),
  (284, .op),
  (285, .op),
  (286, .op),
  (287, .op),
  (288, .op),
  (289, .op),
  (291, .op),
  (292, .op),
  (294, .op),
  (295, .op),
  (296, .op),
  (297, .op),
  (298, tyS313),
  (299, .op),
  (300, .op),
  (301, tyS38),
  (302, .op),
  (303, .op),
  (304, .op),
  (305, .op),
  (307, .op),
  (309, .op),
  (310, .op),
  (311, .op),
  (312, .op),
  (313, .op),
  (314, .op),
  (320, (.int .u32)),
  (321, (.int .u8)),
  (322, (.int .u8)),
  (323, .op),
  (324, .op),
  (325, (.int .i32)),
  (326, (.int .i32))]
theorem tys : ∀ t T, find theta t = some T → tyF Try.prog T (.t t) = true := tys_of (by kernel_rfl)
theorem mixed : Try.prog.follows .mixedOrders = true := by kernel_rfl
namespace laws_big
noncomputable def fs : FS := ⟨[(.val (.sl 5 (.int .u8)) .f)], [(.bool, .o)], fun _ => true, fun x => ((), ((laws_big x.1), ()))⟩
noncomputable def E : Env := ⟨theta, [], []⟩
noncomputable def H : List LC := []
theorem env : EnvOk Try.prog E := env_nil tys
theorem loops : ∀ c, Try.f6.body = some c → LoopsOk E H c := loops_none (by kernel_rfl)
theorem sound : Sound Try.prog 6 fs := fn_sound env mixed Try.func6 H loops fun ⟨x0, ()⟩ hw _ => (show runFn E H Try.f6 fs.ps fs.rs (x0, ()) = raw x0 from by kernel_rfl).trans (eq x0 hw)
theorem known : Seen Try.prog 6 fs := ⟨sound, _, Try.func6, by kernel_rfl, by kernel_rfl⟩
end laws_big
namespace spec_l1New
noncomputable def fs : FS := ⟨[(.val (.sl 5 (.int .u8)) .f)], [((.pair (.sl 5 (.int .u8)) tyS38), (.np .f))], fun x => spec_l1New.pre x.1, fun x => ((), ((spec_l1New x.1), ()))⟩
noncomputable def E : Env := ⟨theta, [], []⟩
noncomputable def sh3 : ShSt := ⟨((.one (.dat (.sl 5 (.int .u8)))) :: uu :: uu :: ui :: ui :: un 27 []), []⟩
noncomputable def outs3 : List OutC := [⟨(.exit 0), ⟨0, [0, 3], []⟩, ⟨((.one (.dat (.sl 5 (.int .u8)))) :: uu :: uu :: ui :: un 28 []), []⟩⟩]
noncomputable def L3 : LC := ⟨3, ⟨3, [0, 3, 4], []⟩, sh3, outs3, pre3, fn3⟩
noncomputable def H : List LC := [L3]
noncomputable def code (i : Nat) : Code := (loopsOf (bodyOf Try.f29)).getD i .skip
theorem lok3 : LoopOk E H (code 0) L3 := ⟨mu3, fun ⟨x1, x2, x3, ()⟩ hp => rounds_ok (show L3.step E H (code 0) (x1, (x2, (x3, ()))) = raw3 x1 x2 x3 from by kernel_rfl) (ok3 x1 x2 x3 hp)⟩
theorem env : EnvOk Try.prog E := env_nil tys
theorem loops : ∀ c, Try.f29.body = some c → LoopsOk E H c := loops_of (by kernel_rfl) (by kernel_rfl) fun i l h => match i, h with
  | 0, h => Option.some.inj h ▸ lok3
  | n + 1, h => by cases h
theorem sound : Sound Try.prog 29 fs := fn_sound env mixed Try.func29 H loops fun ⟨x0, ()⟩ hw hp => (show runFn E H Try.f29 fs.ps fs.rs (x0, ()) = raw x0 from by kernel_rfl).trans (eq x0 hw hp)
theorem known : Seen Try.prog 29 fs := ⟨sound, _, Try.func29, by kernel_rfl, by kernel_rfl⟩
end spec_l1New
namespace spec_l1Byte
noncomputable def fs : FS := ⟨[(.ref (.pair (.sl 5 (.int .u8)) tyS38) .f)], [((.int .i64), .o)], fun x => spec_l1Byte.pre x.1, fun x => (((spec_l1Byte x.1).1, ()), ((spec_l1Byte x.1).2, ()))⟩
noncomputable def E : Env := ⟨theta, [], []⟩
noncomputable def H : List LC := []
theorem env : EnvOk Try.prog E := env_nil tys
theorem loops : ∀ c, Try.f107.body = some c → LoopsOk E H c := loops_none (by kernel_rfl)
theorem sound : Sound Try.prog 107 fs := fn_sound env mixed Try.func107 H loops fun ⟨x0, ()⟩ hw hp => (show runFn E H Try.f107 fs.ps fs.rs (x0, ()) = raw x0 from by kernel_rfl).trans (eq x0 hw hp)
theorem known : Seen Try.prog 107 fs := ⟨sound, _, Try.func107, by kernel_rfl, by kernel_rfl⟩
end spec_l1Byte
namespace spec_l1Below
noncomputable def fs : FS := ⟨[(.ref (.pair (.sl 5 (.int .u8)) tyS38) .f), (.val (.int .i64) .f)], [((.int .i64), .o)], fun x => spec_l1Below.pre x.1 x.2.1, fun x => (((spec_l1Below x.1 x.2.1).1, ()), ((spec_l1Below x.1 x.2.1).2, ()))⟩
noncomputable def E : Env := ⟨theta, [(107, spec_l1Byte.fs)], []⟩
noncomputable def H : List LC := []
theorem env : EnvOk Try.prog E := env_cons spec_l1Byte.known (env_nil tys)
theorem loops : ∀ c, Try.f73.body = some c → LoopsOk E H c := loops_none (by kernel_rfl)
theorem sound : Sound Try.prog 73 fs := fn_sound env mixed Try.func73 H loops fun ⟨x0, x1, ()⟩ hw hp => (show runFn E H Try.f73 fs.ps fs.rs (x0, (x1, ())) = raw x0 x1 from by kernel_rfl).trans (eq x0 x1 hw hp)
theorem known : Seen Try.prog 73 fs := ⟨sound, _, Try.func73, by kernel_rfl, by kernel_rfl⟩
end spec_l1Below
namespace spec_l1PickInt
noncomputable def fs : FS := ⟨[(.ref (.pair (.sl 5 (.int .u8)) tyS38) .f), (.val (.sl 3 (.int .i64)) .o)], [((.int .i64), .o)], fun x => spec_l1PickInt.pre x.1 x.2.1, fun x => (((spec_l1PickInt x.1 x.2.1).1, ()), ((spec_l1PickInt x.1 x.2.1).2, ()))⟩
noncomputable def E : Env := ⟨theta, [(73, spec_l1Below.fs)], []⟩
noncomputable def H : List LC := []
theorem env : EnvOk Try.prog E := env_cons spec_l1Below.known (env_nil tys)
theorem loops : ∀ c, Try.f31.body = some c → LoopsOk E H c := loops_none (by kernel_rfl)
theorem sound : Sound Try.prog 31 fs := fn_sound env mixed Try.func31 H loops fun ⟨x0, x1, ()⟩ hw hp => (show runFn E H Try.f31 fs.ps fs.rs (x0, (x1, ())) = raw x0 x1 from by kernel_rfl).trans (eq x0 x1 hw hp)
theorem known : Seen Try.prog 31 fs := ⟨sound, _, Try.func31, by kernel_rfl, by kernel_rfl⟩
end spec_l1PickInt
namespace spec_l1DrawRight
noncomputable def fs : FS := ⟨[(.ref (.pair (.sl 5 (.int .u8)) tyS38) .f)], [(tyS316, .o)], fun x => spec_l1DrawRight.pre x.1, fun x => (((spec_l1DrawRight x.1).1, ()), ((spec_l1DrawRight x.1).2, ()))⟩
noncomputable def E : Env := ⟨theta, [(73, spec_l1Below.fs), (31, spec_l1PickInt.fs)], []⟩
noncomputable def H : List LC := []
theorem env : EnvOk Try.prog E := env_cons spec_l1Below.known (env_cons spec_l1PickInt.known (env_nil tys))
theorem loops : ∀ c, Try.f110.body = some c → LoopsOk E H c := loops_none (by kernel_rfl)
theorem sound : Sound Try.prog 110 fs := fn_sound env mixed Try.func110 H loops fun ⟨x0, ()⟩ hw hp => (show runFn E H Try.f110 fs.ps fs.rs (x0, ()) = raw x0 from by kernel_rfl).trans (eq x0 hw hp)
theorem known : Seen Try.prog 110 fs := ⟨sound, _, Try.func110, by kernel_rfl, by kernel_rfl⟩
end spec_l1DrawRight
namespace spec_l1Once
noncomputable def fs : FS := ⟨[(.ref (.pair (.sl 5 (.int .u8)) tyS38) .f), (.val (.int .i64) .f)], [(.bool, .o)], fun x => spec_l1Once.pre x.1 x.2.1, fun x => (((spec_l1Once x.1 x.2.1).1, ()), ((spec_l1Once x.1 x.2.1).2, ()))⟩
noncomputable def E : Env := ⟨theta, [(73, spec_l1Below.fs)], []⟩
noncomputable def H : List LC := []
theorem env : EnvOk Try.prog E := env_cons spec_l1Below.known (env_nil tys)
theorem loops : ∀ c, Try.f141.body = some c → LoopsOk E H c := loops_none (by kernel_rfl)
theorem sound : Sound Try.prog 141 fs := fn_sound env mixed Try.func141 H loops fun ⟨x0, x1, ()⟩ hw hp => (show runFn E H Try.f141 fs.ps fs.rs (x0, (x1, ())) = raw x0 x1 from by kernel_rfl).trans (eq x0 x1 hw hp)
theorem known : Seen Try.prog 141 fs := ⟨sound, _, Try.func141, by kernel_rfl, by kernel_rfl⟩
end spec_l1Once
namespace spec_l1Pick
noncomputable def fs : FS := ⟨[(.ref (.pair (.sl 5 (.int .u8)) tyS38) .f), (.val (.sl 9 .str) .o)], [(.str, .o)], fun x => spec_l1Pick.pre x.1 x.2.1, fun x => (((spec_l1Pick x.1 x.2.1).1, ()), ((spec_l1Pick x.1 x.2.1).2, ()))⟩
noncomputable def E : Env := ⟨theta, [(73, spec_l1Below.fs)], []⟩
noncomputable def H : List LC := []
theorem env : EnvOk Try.prog E := env_cons spec_l1Below.known (env_nil tys)
theorem loops : ∀ c, Try.f184.body = some c → LoopsOk E H c := loops_none (by kernel_rfl)
theorem sound : Sound Try.prog 184 fs := fn_sound env mixed Try.func184 H loops fun ⟨x0, x1, ()⟩ hw hp => (show runFn E H Try.f184 fs.ps fs.rs (x0, (x1, ())) = raw x0 x1 from by kernel_rfl).trans (eq x0 x1 hw hp)
theorem known : Seen Try.prog 184 fs := ⟨sound, _, Try.func184, by kernel_rfl, by kernel_rfl⟩
end spec_l1Pick
namespace spec_l2DrawText
noncomputable def fs : FS := ⟨[(.ref (.pair (.sl 5 (.int .u8)) tyS38) .f)], [(.str, .o)], fun x => spec_l2DrawText.pre x.1, fun x => (((spec_l2DrawText x.1).1, ()), ((spec_l2DrawText x.1).2, ()))⟩
noncomputable def E : Env := ⟨theta, [(184, spec_l1Pick.fs)], []⟩
noncomputable def H : List LC := []
theorem env : EnvOk Try.prog E := env_cons spec_l1Pick.known (env_nil tys)
theorem loops : ∀ c, Try.f168.body = some c → LoopsOk E H c := loops_none (by kernel_rfl)
theorem sound : Sound Try.prog 168 fs := fn_sound env mixed Try.func168 H loops fun ⟨x0, ()⟩ hw hp => (show runFn E H Try.f168 fs.ps fs.rs (x0, ()) = raw x0 from by kernel_rfl).trans (eq x0 hw hp)
theorem known : Seen Try.prog 168 fs := ⟨sound, _, Try.func168, by kernel_rfl, by kernel_rfl⟩
end spec_l2DrawText
namespace spec_l2DrawBody
noncomputable def fs : FS := ⟨[(.ref (.pair (.sl 5 (.int .u8)) tyS38) .f)], [(tyS32, .o)], fun x => spec_l2DrawBody.pre x.1, fun x => (((spec_l2DrawBody x.1).1, ()), ((spec_l2DrawBody x.1).2, ()))⟩
noncomputable def E : Env := ⟨theta, [(73, spec_l1Below.fs), (31, spec_l1PickInt.fs), (168, spec_l2DrawText.fs)], []⟩
noncomputable def H : List LC := []
theorem env : EnvOk Try.prog E := env_cons spec_l1Below.known (env_cons spec_l1PickInt.known (env_cons spec_l2DrawText.known (env_nil tys)))
theorem loops : ∀ c, Try.f142.body = some c → LoopsOk E H c := loops_none (by kernel_rfl)
theorem sound : Sound Try.prog 142 fs := fn_sound env mixed Try.func142 H loops fun ⟨x0, ()⟩ hw hp => (show runFn E H Try.f142 fs.ps fs.rs (x0, ()) = raw x0 from by kernel_rfl).trans (eq x0 hw hp)
theorem known : Seen Try.prog 142 fs := ⟨sound, _, Try.func142, by kernel_rfl, by kernel_rfl⟩
end spec_l2DrawBody
namespace spec_l2DrawRight
noncomputable def fs : FS := ⟨[(.ref (.pair (.sl 5 (.int .u8)) tyS38) .f)], [(tyS32, .o)], fun x => spec_l2DrawRight.pre x.1, fun x => (((spec_l2DrawRight x.1).1, ()), ((spec_l2DrawRight x.1).2, ()))⟩
noncomputable def E : Env := ⟨theta, [(73, spec_l1Below.fs), (141, spec_l1Once.fs), (142, spec_l2DrawBody.fs)], []⟩
noncomputable def H : List LC := []
theorem env : EnvOk Try.prog E := env_cons spec_l1Below.known (env_cons spec_l1Once.known (env_cons spec_l2DrawBody.known (env_nil tys)))
theorem loops : ∀ c, Try.f114.body = some c → LoopsOk E H c := loops_none (by kernel_rfl)
theorem sound : Sound Try.prog 114 fs := fn_sound env mixed Try.func114 H loops fun ⟨x0, ()⟩ hw hp => (show runFn E H Try.f114 fs.ps fs.rs (x0, ()) = raw x0 from by kernel_rfl).trans (eq x0 hw hp)
theorem known : Seen Try.prog 114 fs := ⟨sound, _, Try.func114, by kernel_rfl, by kernel_rfl⟩
end spec_l2DrawRight
namespace spec_l6DrawCmds
noncomputable def ob1 : List (Nat × ShO) := [(10000000, (.box (.pair (.sl 5 (.int .u8)) tyS38) (.dat (.pair (.sl 5 (.int .u8)) tyS38)))), (20000000, (.arr 87 tyS32))]
noncomputable def fs : FS := ⟨[(.ref (.pair (.sl 5 (.int .u8)) tyS38) .f), (.val (.int .i64) .f)], [((.sl 87 tyS32), .o)], fun x => spec_l6DrawCmds.pre x.1 x.2.1, fun x => (((spec_l6DrawCmds x.1 x.2.1).1, ()), ((spec_l6DrawCmds x.1 x.2.1).2, ()))⟩
noncomputable def E : Env := ⟨theta, [(73, spec_l1Below.fs), (141, spec_l1Once.fs), (114, spec_l2DrawRight.fs)], []⟩
noncomputable def sh4 : ShSt := ⟨((.one (.bptr 10000000 [] (.pair (.sl 5 (.int .u8)) tyS38))) :: un 4 ((.one (.arr 20000000)) :: ui :: ui :: un 29 [])), ob1⟩
noncomputable def outs4 : List OutC := [⟨(.exit 0), ⟨0, [5, 0], [(5, (87, tyS32))]⟩, ⟨((.one (.bptr 10000000 [] (.pair (.sl 5 (.int .u8)) tyS38))) :: un 4 ((.one (.arr 20000000)) :: un 31 [])), ob1⟩⟩]
noncomputable def L4 : LC := ⟨4, ⟨4, [0, 5, 6, 7], [(5, (87, tyS32))]⟩, sh4, outs4, pre4, fn4⟩
noncomputable def H : List LC := [L4]
noncomputable def code (i : Nat) : Code := (loopsOf (bodyOf Try.f112)).getD i .skip
theorem lok4 : LoopOk E H (code 0) L4 := ⟨mu4, fun ⟨x1, x2, x3, x4, ()⟩ hp => rounds_ok (show L4.step E H (code 0) (x1, (x2, (x3, (x4, ())))) = raw4 x1 x2 x3 x4 from by kernel_rfl) (ok4 x1 x2 x3 x4 hp)⟩
theorem env : EnvOk Try.prog E := env_cons spec_l1Below.known (env_cons spec_l1Once.known (env_cons spec_l2DrawRight.known (env_nil tys)))
theorem loops : ∀ c, Try.f112.body = some c → LoopsOk E H c := loops_of (by kernel_rfl) (by kernel_rfl) fun i l h => match i, h with
  | 0, h => Option.some.inj h ▸ lok4
  | n + 1, h => by cases h
theorem sound : Sound Try.prog 112 fs := fn_sound env mixed Try.func112 H loops fun ⟨x0, x1, ()⟩ hw hp => (show runFn E H Try.f112 fs.ps fs.rs (x0, (x1, ())) = raw x0 x1 from by kernel_rfl).trans (eq x0 x1 hw hp)
theorem known : Seen Try.prog 112 fs := ⟨sound, _, Try.func112, by kernel_rfl, by kernel_rfl⟩
end spec_l6DrawCmds
namespace spec_l1In
noncomputable def fs : FS := ⟨[(.val (.int .i64) .f), (.val (.int .i64) .f), (.val (.int .i64) .f)], [(.bool, .o)], fun _ => true, fun x => ((), ((spec_l1In x.1 x.2.1 x.2.2.1), ()))⟩
noncomputable def E : Env := ⟨theta, [], []⟩
noncomputable def H : List LC := []
theorem env : EnvOk Try.prog E := env_nil tys
theorem loops : ∀ c, Try.f38.body = some c → LoopsOk E H c := loops_none (by kernel_rfl)
theorem sound : Sound Try.prog 38 fs := fn_sound env mixed Try.func38 H loops fun ⟨x0, x1, x2, ()⟩ hw _ => (show runFn E H Try.f38 fs.ps fs.rs (x0, (x1, (x2, ()))) = raw x0 x1 x2 from by kernel_rfl).trans (eq x0 x1 x2 hw)
theorem known : Seen Try.prog 38 fs := ⟨sound, _, Try.func38, by kernel_rfl, by kernel_rfl⟩
end spec_l1In
namespace spec_SetupOk
noncomputable def fs : FS := ⟨[(.val tyS316 .f)], [(.bool, .o)], fun _ => true, fun x => ((), ((spec_SetupOk x.1), ()))⟩
noncomputable def E : Env := ⟨theta, [(38, spec_l1In.fs)], []⟩
noncomputable def H : List LC := []
theorem env : EnvOk Try.prog E := env_cons spec_l1In.known (env_nil tys)
theorem loops : ∀ c, Try.f139.body = some c → LoopsOk E H c := loops_none (by kernel_rfl)
theorem sound : Sound Try.prog 139 fs := fn_sound env mixed Try.func139 H loops fun ⟨x0, ()⟩ hw _ => (show runFn E H Try.f139 fs.ps fs.rs (x0, ()) = raw x0 from by kernel_rfl).trans (eq x0 hw)
theorem known : Seen Try.prog 139 fs := ⟨sound, _, Try.func139, by kernel_rfl, by kernel_rfl⟩
end spec_SetupOk
namespace spec_GroupNew
noncomputable def fs : FS := ⟨[(.val (.int .i64) .f)], [(tyS36, .o)], fun x => spec_GroupNew.pre x.1, fun x => ((), ((spec_GroupNew x.1), ()))⟩
noncomputable def E : Env := ⟨theta, [(38, spec_l1In.fs)], []⟩
noncomputable def H : List LC := []
theorem env : EnvOk Try.prog E := env_cons spec_l1In.known (env_nil tys)
theorem loops : ∀ c, Try.f165.body = some c → LoopsOk E H c := loops_none (by kernel_rfl)
theorem sound : Sound Try.prog 165 fs := fn_sound env mixed Try.func165 H loops fun ⟨x0, ()⟩ hw hp => (show runFn E H Try.f165 fs.ps fs.rs (x0, ()) = raw x0 from by kernel_rfl).trans (eq x0 hw hp)
theorem known : Seen Try.prog 165 fs := ⟨sound, _, Try.func165, by kernel_rfl, by kernel_rfl⟩
end spec_GroupNew
namespace spec_KeepNew
noncomputable def fs : FS := ⟨[(.val tyS316 .f)], [(tyS31, .o)], fun x => spec_KeepNew.pre x.1, fun x => ((), ((spec_KeepNew x.1), ()))⟩
noncomputable def E : Env := ⟨theta, [(139, spec_SetupOk.fs), (165, spec_GroupNew.fs)], []⟩
noncomputable def sh5 : ShSt := ⟨(uu :: (.one (.bptr 0 [] tyS316)) :: (.one (.bptr 32 [] tyS31)) :: (.one (.bptr 24768 [] tyS31)) :: ui :: un 23 []), [(0, (.box tyS316 (.dat tyS316))), (32, (.box tyS31 (.pair (.arr 20000000) (.pair (.arr 20000001) (.pair (.arr 20000002) (.pair (.dat (.int .i64)) (.pair (.arr 20000003) (.pair (.arr 20000004) (.dat .unit))))))))), (20000000, (.arr 197 tyS33)), (20000001, (.arr 203 tyS35)), (20000002, (.arr 207 tyS36)), (20000003, (.arr 3 (.int .i64))), (20000004, (.arr 101 tyS39)), (24768, (.box tyS31 (.pair (.arr 20000005) (.pair (.arr 20000006) (.pair (.arr 20000007) (.pair (.dat (.int .i64)) (.pair (.arr 20000008) (.pair (.arr 20000009) (.dat .unit))))))))), (20000005, (.arr 197 tyS33)), (20000006, (.arr 203 tyS35)), (20000007, (.arr 207 tyS36)), (20000008, (.arr 3 (.int .i64))), (20000009, (.arr 101 tyS39))]⟩
noncomputable def outs5 : List OutC := [⟨(.exit 0), ⟨0, [2, 3], []⟩, ⟨(uu :: uu :: (.one (.bptr 32 [] tyS31)) :: (.one (.bptr 24768 [] tyS31)) :: un 24 []), [(32, (.box tyS31 (.pair (.arr 20000000) (.pair (.arr 20000001) (.pair (.arr 20000002) (.pair (.dat (.int .i64)) (.pair (.arr 20000003) (.pair (.arr 20000004) (.dat .unit))))))))), (20000000, (.arr 197 tyS33)), (20000001, (.arr 203 tyS35)), (20000002, (.arr 207 tyS36)), (20000003, (.arr 3 (.int .i64))), (20000004, (.arr 101 tyS39)), (24768, (.box tyS31 (.pair (.arr 20000005) (.pair (.arr 20000006) (.pair (.arr 20000007) (.pair (.dat (.int .i64)) (.pair (.arr 20000008) (.pair (.arr 20000009) (.dat .unit))))))))), (20000005, (.arr 197 tyS33)), (20000006, (.arr 203 tyS35)), (20000007, (.arr 207 tyS36)), (20000008, (.arr 3 (.int .i64))), (20000009, (.arr 101 tyS39))]⟩⟩]
noncomputable def L5 : LC := ⟨5, ⟨5, [1, 2, 3, 4], []⟩, sh5, outs5, pre5, fn5⟩
noncomputable def H : List LC := [L5]
noncomputable def code (i : Nat) : Code := (loopsOf (bodyOf Try.f138)).getD i .skip
theorem lok5 : LoopOk E H (code 0) L5 := ⟨mu5, fun ⟨x1, x2, x3, x4, x5, x6, x7, x8, x9, x10, x11, x12, x13, x14, x15, x16, ()⟩ hp => rounds_ok (show L5.step E H (code 0) (x1, (x2, (x3, (x4, (x5, (x6, (x7, (x8, (x9, (x10, (x11, (x12, (x13, (x14, (x15, (x16, ())))))))))))))))) = raw5 x1 x2 x3 x4 x5 x6 x7 x8 x9 x10 x11 x12 x13 x14 x15 x16 from by kernel_rfl) (ok5 x1 x2 x3 x4 x5 x6 x7 x8 x9 x10 x11 x12 x13 x14 x15 x16 hp)⟩
theorem env : EnvOk Try.prog E := env_cons spec_SetupOk.known (env_cons spec_GroupNew.known (env_nil tys))
theorem loops : ∀ c, Try.f138.body = some c → LoopsOk E H c := loops_of (by kernel_rfl) (by kernel_rfl) fun i l h => match i, h with
  | 0, h => Option.some.inj h ▸ lok5
  | n + 1, h => by cases h
theorem sound : Sound Try.prog 138 fs := fn_sound env mixed Try.func138 H loops fun ⟨x0, ()⟩ hw hp => (show runFn E H Try.f138 fs.ps fs.rs (x0, ()) = raw x0 from by kernel_rfl).trans (eq x0 hw hp)
theorem known : Seen Try.prog 138 fs := ⟨sound, _, Try.func138, by kernel_rfl, by kernel_rfl⟩
end spec_KeepNew
namespace spec_l2Text
noncomputable def fs : FS := ⟨[(.val .str .f)], [(.bool, .o)], fun _ => true, fun x => ((), ((spec_l2Text x.1), ()))⟩
noncomputable def E : Env := ⟨theta, [], []⟩
noncomputable def sh2 : ShSt := ⟨((.one (.dat .str)) :: uu :: uu :: ui :: un 32 []), []⟩
noncomputable def outs2 : List OutC := [⟨.ret, ⟨0, [2], []⟩, ⟨(uu :: uu :: (.one (.dat .bool)) :: un 33 []), []⟩⟩, ⟨(.exit 0), ⟨0, [0], []⟩, ⟨((.one (.dat .str)) :: un 35 []), []⟩⟩]
noncomputable def L2 : LC := ⟨2, ⟨2, [0, 3], []⟩, sh2, outs2, pre2, fn2⟩
noncomputable def H : List LC := [L2]
noncomputable def code (i : Nat) : Code := (loopsOf (bodyOf Try.f143)).getD i .skip
theorem lok2 : LoopOk E H (code 0) L2 := ⟨mu2, fun ⟨x1, x2, ()⟩ hp => rounds_ok (show L2.step E H (code 0) (x1, (x2, ())) = raw2 x1 x2 from by kernel_rfl) (ok2 x1 x2 hp)⟩
theorem env : EnvOk Try.prog E := env_nil tys
theorem loops : ∀ c, Try.f143.body = some c → LoopsOk E H c := loops_of (by kernel_rfl) (by kernel_rfl) fun i l h => match i, h with
  | 0, h => Option.some.inj h ▸ lok2
  | n + 1, h => by cases h
theorem sound : Sound Try.prog 143 fs := fn_sound env mixed Try.func143 H loops fun ⟨x0, ()⟩ hw _ => (show runFn E H Try.f143 fs.ps fs.rs (x0, ()) = raw x0 from by kernel_rfl).trans (eq x0 hw)
theorem known : Seen Try.prog 143 fs := ⟨sound, _, Try.func143, by kernel_rfl, by kernel_rfl⟩
end spec_l2Text
namespace spec_CmdOk
noncomputable def fs : FS := ⟨[(.val tyS32 .f)], [(.bool, .o)], fun _ => true, fun x => ((), ((spec_CmdOk x.1), ()))⟩
noncomputable def E : Env := ⟨theta, [(38, spec_l1In.fs), (143, spec_l2Text.fs)], []⟩
noncomputable def H : List LC := []
theorem env : EnvOk Try.prog E := env_cons spec_l1In.known (env_cons spec_l2Text.known (env_nil tys))
theorem loops : ∀ c, Try.f117.body = some c → LoopsOk E H c := loops_none (by kernel_rfl)
theorem sound : Sound Try.prog 117 fs := fn_sound env mixed Try.func117 H loops fun ⟨x0, ()⟩ hw _ => (show runFn E H Try.f117 fs.ps fs.rs (x0, ()) = raw x0 from by kernel_rfl).trans (eq x0 hw)
theorem known : Seen Try.prog 117 fs := ⟨sound, _, Try.func117, by kernel_rfl, by kernel_rfl⟩
end spec_CmdOk
namespace spec_l3Copy
noncomputable def fs : FS := ⟨[(.val tyS33 .f)], [(tyS33, .o)], fun x => spec_l3Copy.pre x.1, fun x => ((), ((spec_l3Copy x.1), ()))⟩
noncomputable def E : Env := ⟨theta, [], []⟩
noncomputable def H : List LC := []
theorem env : EnvOk Try.prog E := env_nil tys
theorem loops : ∀ c, Try.f178.body = some c → LoopsOk E H c := loops_none (by kernel_rfl)
theorem sound : Sound Try.prog 178 fs := fn_sound env mixed Try.func178 H loops fun ⟨x0, ()⟩ hw hp => (show runFn E H Try.f178 fs.ps fs.rs (x0, ()) = raw x0 from by kernel_rfl).trans (eq x0 hw hp)
theorem known : Seen Try.prog 178 fs := ⟨sound, _, Try.func178, by kernel_rfl, by kernel_rfl⟩
end spec_l3Copy
namespace spec_l4Copy
noncomputable def fs : FS := ⟨[(.val tyS35 .f)], [(tyS35, .o)], fun x => spec_l4Copy.pre x.1, fun x => ((), ((spec_l4Copy x.1), ()))⟩
noncomputable def E : Env := ⟨theta, [], []⟩
noncomputable def H : List LC := []
theorem env : EnvOk Try.prog E := env_nil tys
theorem loops : ∀ c, Try.f179.body = some c → LoopsOk E H c := loops_none (by kernel_rfl)
theorem sound : Sound Try.prog 179 fs := fn_sound env mixed Try.func179 H loops fun ⟨x0, ()⟩ hw hp => (show runFn E H Try.f179 fs.ps fs.rs (x0, ()) = raw x0 from by kernel_rfl).trans (eq x0 hw hp)
theorem known : Seen Try.prog 179 fs := ⟨sound, _, Try.func179, by kernel_rfl, by kernel_rfl⟩
end spec_l4Copy
namespace spec_l5Copy
noncomputable def fs : FS := ⟨[(.val tyS36 .f)], [(tyS36, .o)], fun x => spec_l5Copy.pre x.1, fun x => ((), ((spec_l5Copy x.1), ()))⟩
noncomputable def E : Env := ⟨theta, [], []⟩
noncomputable def H : List LC := []
theorem env : EnvOk Try.prog E := env_nil tys
theorem loops : ∀ c, Try.f180.body = some c → LoopsOk E H c := loops_none (by kernel_rfl)
theorem sound : Sound Try.prog 180 fs := fn_sound env mixed Try.func180 H loops fun ⟨x0, ()⟩ hw hp => (show runFn E H Try.f180 fs.ps fs.rs (x0, ()) = raw x0 from by kernel_rfl).trans (eq x0 hw hp)
theorem known : Seen Try.prog 180 fs := ⟨sound, _, Try.func180, by kernel_rfl, by kernel_rfl⟩
end spec_l5Copy
namespace spec_l6Copy
noncomputable def ob1 : List (Nat × ShO) := [(0, (.box tyS31 (.dat tyS31))), (32, (.box tyS31 (.pair (.arr 20000000) (.pair (.arr 20000001) (.pair (.arr 20000002) (.pair (.dat (.int .i64)) (.pair (.arr 20000003) (.pair (.arr 20000004) (.dat .unit))))))))), (20000000, (.arr 197 tyS33)), (20000001, (.arr 203 tyS35)), (20000002, (.arr 207 tyS36)), (20000003, (.arr 3 (.int .i64))), (20000004, (.arr 101 tyS39)), (8544, (.box tyS31 (.pair (.arr 20000005) (.pair (.arr 20000006) (.pair (.arr 20000007) (.pair (.dat (.int .i64)) (.pair (.arr 20000008) (.pair (.arr 20000009) (.dat .unit))))))))), (20000005, (.arr 197 tyS33)), (20000006, (.arr 203 tyS35)), (20000007, (.arr 207 tyS36)), (20000008, (.arr 3 (.int .i64))), (20000009, (.arr 101 tyS39))]
noncomputable def fs : FS := ⟨[(.val tyS31 .f)], [(tyS31, .o)], fun x => spec_l6Copy.pre x.1, fun x => ((), ((spec_l6Copy x.1), ()))⟩
noncomputable def E : Env := ⟨theta, [(178, spec_l3Copy.fs), (179, spec_l4Copy.fs), (180, spec_l5Copy.fs)], []⟩
noncomputable def sh3 : ShSt := ⟨(uu :: (.one (.bptr 0 [] tyS31)) :: (.one (.bptr 32 [] tyS31)) :: (.one (.bptr 8544 [] tyS31)) :: ui :: un 68 []), ob1⟩
noncomputable def outs3 : List OutC := [⟨(.exit 0), ⟨0, [1, 2, 3], []⟩, ⟨(uu :: (.one (.bptr 0 [] tyS31)) :: (.one (.bptr 32 [] tyS31)) :: (.one (.bptr 8544 [] tyS31)) :: un 69 []), ob1⟩⟩]
noncomputable def L3 : LC := ⟨3, ⟨3, [1, 2, 3, 4], []⟩, sh3, outs3, pre3, fn3⟩
noncomputable def sh7 : ShSt := ⟨(uu :: (.one (.bptr 0 [] tyS31)) :: (.one (.bptr 32 [] tyS31)) :: (.one (.bptr 8544 [] tyS31)) :: uu :: ui :: un 67 []), ob1⟩
noncomputable def outs7 : List OutC := [⟨(.exit 2), ⟨0, [1, 2, 3], []⟩, ⟨(uu :: (.one (.bptr 0 [] tyS31)) :: (.one (.bptr 32 [] tyS31)) :: (.one (.bptr 8544 [] tyS31)) :: un 69 []), ob1⟩⟩]
noncomputable def L7 : LC := ⟨7, ⟨7, [1, 2, 3, 5], []⟩, sh7, outs7, pre7, fn7⟩
noncomputable def sh11 : ShSt := ⟨(uu :: (.one (.bptr 0 [] tyS31)) :: (.one (.bptr 32 [] tyS31)) :: (.one (.bptr 8544 [] tyS31)) :: uu :: uu :: ui :: un 66 []), ob1⟩
noncomputable def outs11 : List OutC := [⟨(.exit 4), ⟨0, [2, 3], []⟩, ⟨(uu :: uu :: (.one (.bptr 32 [] tyS31)) :: (.one (.bptr 8544 [] tyS31)) :: un 69 []), [(32, (.box tyS31 (.pair (.arr 20000000) (.pair (.arr 20000001) (.pair (.arr 20000002) (.pair (.dat (.int .i64)) (.pair (.arr 20000003) (.pair (.arr 20000004) (.dat .unit))))))))), (20000000, (.arr 197 tyS33)), (20000001, (.arr 203 tyS35)), (20000002, (.arr 207 tyS36)), (20000003, (.arr 3 (.int .i64))), (20000004, (.arr 101 tyS39)), (8544, (.box tyS31 (.pair (.arr 20000005) (.pair (.arr 20000006) (.pair (.arr 20000007) (.pair (.dat (.int .i64)) (.pair (.arr 20000008) (.pair (.arr 20000009) (.dat .unit))))))))), (20000005, (.arr 197 tyS33)), (20000006, (.arr 203 tyS35)), (20000007, (.arr 207 tyS36)), (20000008, (.arr 3 (.int .i64))), (20000009, (.arr 101 tyS39))]⟩⟩]
noncomputable def L11 : LC := ⟨11, ⟨11, [1, 2, 3, 6], []⟩, sh11, outs11, pre11, fn11⟩
noncomputable def H : List LC := [L3, L7, L11]
noncomputable def code (i : Nat) : Code := (loopsOf (bodyOf Try.f166)).getD i .skip
theorem lok3 : LoopOk E H (code 0) L3 := ⟨mu3, fun ⟨x1, x2, x3, x4, x5, x6, x7, x8, x9, x10, x11, x12, x13, x14, x15, x16, ()⟩ hp => rounds_ok (show L3.step E H (code 0) (x1, (x2, (x3, (x4, (x5, (x6, (x7, (x8, (x9, (x10, (x11, (x12, (x13, (x14, (x15, (x16, ())))))))))))))))) = raw3 x1 x2 x3 x4 x5 x6 x7 x8 x9 x10 x11 x12 x13 x14 x15 x16 from by kernel_rfl) (ok3 x1 x2 x3 x4 x5 x6 x7 x8 x9 x10 x11 x12 x13 x14 x15 x16 hp)⟩
theorem lok7 : LoopOk E H (code 1) L7 := ⟨mu7, fun ⟨x1, x2, x3, x4, x5, x6, x7, x8, x9, x10, x11, x12, x13, x14, x15, x16, ()⟩ hp => rounds_ok (show L7.step E H (code 1) (x1, (x2, (x3, (x4, (x5, (x6, (x7, (x8, (x9, (x10, (x11, (x12, (x13, (x14, (x15, (x16, ())))))))))))))))) = raw7 x1 x2 x3 x4 x5 x6 x7 x8 x9 x10 x11 x12 x13 x14 x15 x16 from by kernel_rfl) (ok7 x1 x2 x3 x4 x5 x6 x7 x8 x9 x10 x11 x12 x13 x14 x15 x16 hp)⟩
theorem lok11 : LoopOk E H (code 2) L11 := ⟨mu11, fun ⟨x1, x2, x3, x4, x5, x6, x7, x8, x9, x10, x11, x12, x13, x14, x15, x16, ()⟩ hp => rounds_ok (show L11.step E H (code 2) (x1, (x2, (x3, (x4, (x5, (x6, (x7, (x8, (x9, (x10, (x11, (x12, (x13, (x14, (x15, (x16, ())))))))))))))))) = raw11 x1 x2 x3 x4 x5 x6 x7 x8 x9 x10 x11 x12 x13 x14 x15 x16 from by kernel_rfl) (ok11 x1 x2 x3 x4 x5 x6 x7 x8 x9 x10 x11 x12 x13 x14 x15 x16 hp)⟩
theorem env : EnvOk Try.prog E := env_cons spec_l3Copy.known (env_cons spec_l4Copy.known (env_cons spec_l5Copy.known (env_nil tys)))
theorem loops : ∀ c, Try.f166.body = some c → LoopsOk E H c := loops_of (by kernel_rfl) (by kernel_rfl) fun i l h => match i, h with
  | 0, h => Option.some.inj h ▸ lok3
  | 1, h => Option.some.inj h ▸ lok7
  | 2, h => Option.some.inj h ▸ lok11
  | n + 3, h => by cases h
theorem sound : Sound Try.prog 166 fs := fn_sound env mixed Try.func166 H loops fun ⟨x0, ()⟩ hw hp => (show runFn E H Try.f166 fs.ps fs.rs (x0, ()) = raw x0 from by kernel_rfl).trans (eq x0 hw hp)
theorem known : Seen Try.prog 166 fs := ⟨sound, _, Try.func166, by kernel_rfl, by kernel_rfl⟩
end spec_l6Copy
namespace spec_l1Min
noncomputable def fs : FS := ⟨[(.val (.int .i64) .f), (.val (.int .i64) .f)], [((.int .i64), .o)], fun _ => true, fun x => ((), ((spec_l1Min x.1 x.2.1), ()))⟩
noncomputable def E : Env := ⟨theta, [], []⟩
noncomputable def H : List LC := []
theorem env : EnvOk Try.prog E := env_nil tys
theorem loops : ∀ c, Try.f35.body = some c → LoopsOk E H c := loops_none (by kernel_rfl)
theorem sound : Sound Try.prog 35 fs := fn_sound env mixed Try.func35 H loops fun ⟨x0, x1, ()⟩ hw _ => (show runFn E H Try.f35 fs.ps fs.rs (x0, (x1, ())) = raw x0 x1 from by kernel_rfl).trans (eq x0 x1 hw)
theorem known : Seen Try.prog 35 fs := ⟨sound, _, Try.func35, by kernel_rfl, by kernel_rfl⟩
end spec_l1Min
namespace spec_l5Without
noncomputable def fs : FS := ⟨[(.val tyS36 .f), (.val (.int .i64) .f)], [(tyS36, .o)], fun x => spec_l5Without.pre x.1 x.2.1, fun x => ((), ((spec_l5Without x.1 x.2.1), ()))⟩
noncomputable def E : Env := ⟨theta, [(180, spec_l5Copy.fs)], []⟩
noncomputable def H : List LC := []
theorem env : EnvOk Try.prog E := env_cons spec_l5Copy.known (env_nil tys)
theorem loops : ∀ c, Try.f191.body = some c → LoopsOk E H c := loops_none (by kernel_rfl)
theorem sound : Sound Try.prog 191 fs := fn_sound env mixed Try.func191 H loops fun ⟨x0, x1, ()⟩ hw hp => (show runFn E H Try.f191 fs.ps fs.rs (x0, (x1, ())) = raw x0 x1 from by kernel_rfl).trans (eq x0 x1 hw hp)
theorem known : Seen Try.prog 191 fs := ⟨sound, _, Try.func191, by kernel_rfl, by kernel_rfl⟩
end spec_l5Without
namespace spec_l5Up
noncomputable def fs : FS := ⟨[(.val (.int .i64) .f)], [((.int .i64), .o)], fun x => spec_l5Up.pre x.1, fun x => ((), ((spec_l5Up x.1), ()))⟩
noncomputable def E : Env := ⟨theta, [], []⟩
noncomputable def H : List LC := []
theorem env : EnvOk Try.prog E := env_nil tys
theorem loops : ∀ c, Try.f192.body = some c → LoopsOk E H c := loops_none (by kernel_rfl)
theorem sound : Sound Try.prog 192 fs := fn_sound env mixed Try.func192 H loops fun ⟨x0, ()⟩ hw hp => (show runFn E H Try.f192 fs.ps fs.rs (x0, ()) = raw x0 from by kernel_rfl).trans (eq x0 hw hp)
theorem known : Seen Try.prog 192 fs := ⟨sound, _, Try.func192, by kernel_rfl, by kernel_rfl⟩
end spec_l5Up
namespace spec_GroupTick
noncomputable def ob1 : List (Nat × ShO) := [(0, (.box tyS36 (.dat tyS36))), (32, (.box tyS36 (.pair (.dat (.int .i64)) (.pair (.arr 20000000) (.pair (.arr 20000001) (.pair (.arr 20000002) (.dat .unit))))))), (20000000, (.arr 3 (.int .i64))), (20000001, (.arr 3 (.int .i64))), (20000002, (.arr 3 (.int .i64))), (8256, (.box tyS36 (.pair (.dat (.int .i64)) (.pair (.arr 20000003) (.pair (.arr 20000004) (.pair (.arr 20000005) (.dat .unit))))))), (20000003, (.arr 3 (.int .i64))), (20000004, (.arr 3 (.int .i64))), (20000005, (.arr 3 (.int .i64)))]
noncomputable def fs : FS := ⟨[(.val tyS36 .f), (.val (.int .i64) .f)], [(tyS36, .o)], fun x => spec_GroupTick.pre x.1 x.2.1, fun x => ((), ((spec_GroupTick x.1 x.2.1), ()))⟩
noncomputable def E : Env := ⟨theta, [(180, spec_l5Copy.fs), (191, spec_l5Without.fs), (192, spec_l5Up.fs)], []⟩
noncomputable def sh4 : ShSt := ⟨(uu :: ui :: (.one (.bptr 0 [] tyS36)) :: uu :: (.one (.bptr 32 [] tyS36)) :: (.one (.bptr 8256 [] tyS36)) :: (.one (.dat .bool)) :: ui :: un 53 []), ob1⟩
noncomputable def outs4 : List OutC := [⟨(.exit 0), ⟨0, [2, 4, 5, 6], []⟩, ⟨(uu :: uu :: (.one (.bptr 0 [] tyS36)) :: uu :: (.one (.bptr 32 [] tyS36)) :: (.one (.bptr 8256 [] tyS36)) :: (.one (.dat .bool)) :: un 54 []), ob1⟩⟩]
noncomputable def L4 : LC := ⟨4, ⟨4, [1, 2, 4, 5, 6, 7], []⟩, sh4, outs4, pre4, fn4⟩
noncomputable def H : List LC := [L4]
noncomputable def code (i : Nat) : Code := (loopsOf (bodyOf Try.f181)).getD i .skip
theorem lok4 : LoopOk E H (code 0) L4 := ⟨mu4, fun ⟨x1, x2, x3, x4, x5, x6, x7, x8, x9, x10, x11, x12, x13, x14, ()⟩ hp => rounds_ok (show L4.step E H (code 0) (x1, (x2, (x3, (x4, (x5, (x6, (x7, (x8, (x9, (x10, (x11, (x12, (x13, (x14, ())))))))))))))) = raw4 x1 x2 x3 x4 x5 x6 x7 x8 x9 x10 x11 x12 x13 x14 from by kernel_rfl) (ok4 x1 x2 x3 x4 x5 x6 x7 x8 x9 x10 x11 x12 x13 x14 hp)⟩
theorem env : EnvOk Try.prog E := env_cons spec_l5Copy.known (env_cons spec_l5Without.known (env_cons spec_l5Up.known (env_nil tys)))
theorem loops : ∀ c, Try.f181.body = some c → LoopsOk E H c := loops_of (by kernel_rfl) (by kernel_rfl) fun i l h => match i, h with
  | 0, h => Option.some.inj h ▸ lok4
  | n + 1, h => by cases h
theorem sound : Sound Try.prog 181 fs := fn_sound env mixed Try.func181 H loops fun ⟨x0, x1, ()⟩ hw hp => (show runFn E H Try.f181 fs.ps fs.rs (x0, (x1, ())) = raw x0 x1 from by kernel_rfl).trans (eq x0 x1 hw hp)
theorem known : Seen Try.prog 181 fs := ⟨sound, _, Try.func181, by kernel_rfl, by kernel_rfl⟩
end spec_GroupTick
namespace spec_l5At
noncomputable def fs : FS := ⟨[(.val tyS36 .f), (.val (.int .i64) .f)], [((.int .i64), .o)], fun x => spec_l5At.pre x.1 x.2.1, fun x => ((), ((spec_l5At x.1 x.2.1), ()))⟩
noncomputable def E : Env := ⟨theta, [], []⟩
noncomputable def sh2 : ShSt := ⟨(uu :: ui :: (.one (.bptr 0 [] tyS36)) :: uu :: uu :: ui :: un 15 []), [(0, (.box tyS36 (.dat tyS36)))]⟩
noncomputable def outs2 : List OutC := [⟨.ret, ⟨0, [4], []⟩, ⟨(un 4 (ui :: un 16 [])), []⟩⟩, ⟨(.exit 0), ⟨0, [], []⟩, ⟨(un 21 []), []⟩⟩]
noncomputable def L2 : LC := ⟨2, ⟨2, [1, 2, 5], []⟩, sh2, outs2, pre2, fn2⟩
noncomputable def H : List LC := [L2]
noncomputable def code (i : Nat) : Code := (loopsOf (bodyOf Try.f206)).getD i .skip
theorem lok2 : LoopOk E H (code 0) L2 := ⟨mu2, fun ⟨x1, x2, x3, ()⟩ hp => rounds_ok (show L2.step E H (code 0) (x1, (x2, (x3, ()))) = raw2 x1 x2 x3 from by kernel_rfl) (ok2 x1 x2 x3 hp)⟩
theorem env : EnvOk Try.prog E := env_nil tys
theorem loops : ∀ c, Try.f206.body = some c → LoopsOk E H c := loops_of (by kernel_rfl) (by kernel_rfl) fun i l h => match i, h with
  | 0, h => Option.some.inj h ▸ lok2
  | n + 1, h => by cases h
theorem sound : Sound Try.prog 206 fs := fn_sound env mixed Try.func206 H loops fun ⟨x0, x1, ()⟩ hw hp => (show runFn E H Try.f206 fs.ps fs.rs (x0, (x1, ())) = raw x0 x1 from by kernel_rfl).trans (eq x0 x1 hw hp)
theorem known : Seen Try.prog 206 fs := ⟨sound, _, Try.func206, by kernel_rfl, by kernel_rfl⟩
end spec_l5At
namespace spec_GroupJoin
noncomputable def ob1 : List (Nat × ShO) := [(0, (.box tyS36 (.dat tyS36))), (32, (.box tyS36 (.pair (.dat (.int .i64)) (.pair (.arr 20000000) (.pair (.arr 20000001) (.pair (.arr 20000002) (.dat .unit))))))), (20000000, (.arr 3 (.int .i64))), (20000001, (.arr 3 (.int .i64))), (20000002, (.arr 3 (.int .i64))), (8256, (.box tyS36 (.pair (.dat (.int .i64)) (.pair (.arr 20000003) (.pair (.arr 20000004) (.pair (.arr 20000005) (.dat .unit))))))), (20000003, (.arr 3 (.int .i64))), (20000004, (.arr 3 (.int .i64))), (20000005, (.arr 3 (.int .i64)))]
noncomputable def fs : FS := ⟨[(.val tyS36 .f), (.val (.int .i64) .f), (.val (.int .i64) .f)], [(tyS36, .o)], fun x => spec_GroupJoin.pre x.1 x.2.1 x.2.2.1, fun x => ((), ((spec_GroupJoin x.1 x.2.1 x.2.2.1), ()))⟩
noncomputable def E : Env := ⟨theta, [(38, spec_l1In.fs), (180, spec_l5Copy.fs), (192, spec_l5Up.fs), (206, spec_l5At.fs)], []⟩
noncomputable def sh10 : ShSt := ⟨(uu :: ui :: ui :: (.one (.bptr 0 [] tyS36)) :: uu :: uu :: (.one (.bptr 32 [] tyS36)) :: (.one (.bptr 8256 [] tyS36)) :: ui :: un 86 []), ob1⟩
noncomputable def outs10 : List OutC := [⟨(.exit 0), ⟨0, [1, 2, 3, 6, 7, 8], []⟩, ⟨(uu :: ui :: ui :: (.one (.bptr 0 [] tyS36)) :: uu :: uu :: (.one (.bptr 32 [] tyS36)) :: (.one (.bptr 8256 [] tyS36)) :: ui :: un 86 []), ob1⟩⟩]
noncomputable def L10 : LC := ⟨10, ⟨10, [1, 2, 3, 6, 7, 8], []⟩, sh10, outs10, pre10, fn10⟩
noncomputable def H : List LC := [L10]
noncomputable def code (i : Nat) : Code := (loopsOf (bodyOf Try.f193)).getD i .skip
theorem lok10 : LoopOk E H (code 0) L10 := ⟨mu10, fun ⟨x1, x2, x3, x4, x5, x6, x7, x8, x9, x10, x11, x12, x13, x14, ()⟩ hp => rounds_ok (show L10.step E H (code 0) (x1, (x2, (x3, (x4, (x5, (x6, (x7, (x8, (x9, (x10, (x11, (x12, (x13, (x14, ())))))))))))))) = raw10 x1 x2 x3 x4 x5 x6 x7 x8 x9 x10 x11 x12 x13 x14 from by kernel_rfl) (ok10 x1 x2 x3 x4 x5 x6 x7 x8 x9 x10 x11 x12 x13 x14 hp)⟩
theorem env : EnvOk Try.prog E := env_cons spec_l1In.known (env_cons spec_l5Copy.known (env_cons spec_l5Up.known (env_cons spec_l5At.known (env_nil tys))))
theorem loops : ∀ c, Try.f193.body = some c → LoopsOk E H c := loops_of (by kernel_rfl) (by kernel_rfl) fun i l h => match i, h with
  | 0, h => Option.some.inj h ▸ lok10
  | n + 1, h => by cases h
theorem sound : Sound Try.prog 193 fs := fn_sound env mixed Try.func193 H loops fun ⟨x0, x1, x2, ()⟩ hw hp => (show runFn E H Try.f193 fs.ps fs.rs (x0, (x1, (x2, ()))) = raw x0 x1 x2 from by kernel_rfl).trans (eq x0 x1 x2 hw hp)
theorem known : Seen Try.prog 193 fs := ⟨sound, _, Try.func193, by kernel_rfl, by kernel_rfl⟩
end spec_GroupJoin
namespace spec_GroupLeave
noncomputable def fs : FS := ⟨[(.val tyS36 .f), (.val (.int .i64) .f)], [(tyS36, .o)], fun x => spec_GroupLeave.pre x.1 x.2.1, fun x => ((), ((spec_GroupLeave x.1 x.2.1), ()))⟩
noncomputable def E : Env := ⟨theta, [(38, spec_l1In.fs), (180, spec_l5Copy.fs), (191, spec_l5Without.fs), (192, spec_l5Up.fs), (206, spec_l5At.fs)], []⟩
noncomputable def H : List LC := []
theorem env : EnvOk Try.prog E := env_cons spec_l1In.known (env_cons spec_l5Copy.known (env_cons spec_l5Without.known (env_cons spec_l5Up.known (env_cons spec_l5At.known (env_nil tys)))))
theorem loops : ∀ c, Try.f194.body = some c → LoopsOk E H c := loops_none (by kernel_rfl)
theorem sound : Sound Try.prog 194 fs := fn_sound env mixed Try.func194 H loops fun ⟨x0, x1, ()⟩ hw hp => (show runFn E H Try.f194 fs.ps fs.rs (x0, (x1, ())) = raw x0 x1 from by kernel_rfl).trans (eq x0 x1 hw hp)
theorem known : Seen Try.prog 194 fs := ⟨sound, _, Try.func194, by kernel_rfl, by kernel_rfl⟩
end spec_GroupLeave
namespace spec_OwnerOf
noncomputable def fs : FS := ⟨[(.val tyS36 .f), (.val (.int .i64) .f)], [((.int .i64), .o)], fun x => spec_OwnerOf.pre x.1 x.2.1, fun x => ((), ((spec_OwnerOf x.1 x.2.1), ()))⟩
noncomputable def E : Env := ⟨theta, [], []⟩
noncomputable def H : List LC := []
theorem env : EnvOk Try.prog E := env_nil tys
theorem loops : ∀ c, Try.f207.body = some c → LoopsOk E H c := loops_none (by kernel_rfl)
theorem sound : Sound Try.prog 207 fs := fn_sound env mixed Try.func207 H loops fun ⟨x0, x1, ()⟩ hw hp => (show runFn E H Try.f207 fs.ps fs.rs (x0, (x1, ())) = raw x0 x1 from by kernel_rfl).trans (eq x0 x1 hw hp)
theorem known : Seen Try.prog 207 fs := ⟨sound, _, Try.func207, by kernel_rfl, by kernel_rfl⟩
end spec_OwnerOf
namespace spec_GroupMark
noncomputable def fs : FS := ⟨[(.val tyS36 .f), (.val (.int .i64) .f), (.val (.int .i64) .f), (.val (.int .i64) .f), (.val (.int .i64) .f)], [(tyS36, .o), (.bool, .o)], fun x => spec_GroupMark.pre x.1 x.2.1 x.2.2.1 x.2.2.2.1 x.2.2.2.2.1, fun x => ((), ((spec_GroupMark x.1 x.2.1 x.2.2.1 x.2.2.2.1 x.2.2.2.2.1).1, ((spec_GroupMark x.1 x.2.1 x.2.2.1 x.2.2.2.1 x.2.2.2.2.1).2, ())))⟩
noncomputable def E : Env := ⟨theta, [(38, spec_l1In.fs), (180, spec_l5Copy.fs), (207, spec_OwnerOf.fs)], []⟩
noncomputable def H : List LC := []
theorem env : EnvOk Try.prog E := env_cons spec_l1In.known (env_cons spec_l5Copy.known (env_cons spec_OwnerOf.known (env_nil tys)))
theorem loops : ∀ c, Try.f195.body = some c → LoopsOk E H c := loops_none (by kernel_rfl)
theorem sound : Sound Try.prog 195 fs := fn_sound env mixed Try.func195 H loops fun ⟨x0, x1, x2, x3, x4, ()⟩ hw hp => (show runFn E H Try.f195 fs.ps fs.rs (x0, (x1, (x2, (x3, (x4, ()))))) = raw x0 x1 x2 x3 x4 from by kernel_rfl).trans (eq x0 x1 x2 x3 x4 hw hp)
theorem known : Seen Try.prog 195 fs := ⟨sound, _, Try.func195, by kernel_rfl, by kernel_rfl⟩
end spec_GroupMark
namespace spec_l6Group
noncomputable def fs : FS := ⟨[(.val tyS316 .f), (.val tyS31 .o), (.val tyS32 .f)], [(tyS31, .o), (tyS39, .o)], fun x => spec_l6Group.pre x.1 x.2.1 x.2.2.1, fun x => ((), ((spec_l6Group x.1 x.2.1 x.2.2.1).1, ((spec_l6Group x.1 x.2.1 x.2.2.1).2, ())))⟩
noncomputable def E : Env := ⟨theta, [(193, spec_GroupJoin.fs), (194, spec_GroupLeave.fs), (195, spec_GroupMark.fs)], []⟩
noncomputable def H : List LC := []
theorem env : EnvOk Try.prog E := env_cons spec_GroupJoin.known (env_cons spec_GroupLeave.known (env_cons spec_GroupMark.known (env_nil tys)))
theorem loops : ∀ c, Try.f182.body = some c → LoopsOk E H c := loops_none (by kernel_rfl)
theorem sound : Sound Try.prog 182 fs := fn_sound env mixed Try.func182 H loops fun ⟨x0, x1, x2, ()⟩ hw hp => (show runFn E H Try.f182 fs.ps fs.rs (x0, (x1, (x2, ()))) = raw x0 x1 x2 from by kernel_rfl).trans (eq x0 x1 x2 hw hp)
theorem known : Seen Try.prog 182 fs := ⟨sound, _, Try.func182, by kernel_rfl, by kernel_rfl⟩
end spec_l6Group
namespace spec_MakerOf
noncomputable def ob1 : List (Nat × ShO) := [(0, (.box tyS35 (.pair (.dat (.int .i64)) (.pair (.dat (.int .i64)) (.pair (.dat (.int .i64)) (.pair (.dat (.int .i64)) (.pair (.arr 20000000) (.dat .unit)))))))), (20000000, (.arr 205 tyS38))]
noncomputable def fs : FS := ⟨[(.val (.sl 203 tyS35) .f), (.val (.int .i64) .f), (.val (.int .i64) .f)], [(tyS35, .o)], fun x => spec_MakerOf.pre x.1 x.2.1 x.2.2.1, fun x => ((), ((spec_MakerOf x.1 x.2.1 x.2.2.1), ()))⟩
noncomputable def E : Env := ⟨theta, [(179, spec_l4Copy.fs)], []⟩
noncomputable def sh2 : ShSt := ⟨((.one (.dat (.sl 203 tyS35))) :: ui :: ui :: uu :: uu :: uu :: (.one (.bptr 0 [] tyS35)) :: ui :: un 30 []), ob1⟩
noncomputable def outs2 : List OutC := [⟨.ret, ⟨0, [6], []⟩, ⟨(un 6 ((.one (.bptr 0 [] tyS35)) :: un 31 [])), ob1⟩⟩, ⟨(.exit 0), ⟨0, [1, 2, 6], []⟩, ⟨(uu :: ui :: ui :: uu :: uu :: uu :: (.one (.bptr 0 [] tyS35)) :: un 31 []), ob1⟩⟩]
noncomputable def L2 : LC := ⟨2, ⟨2, [0, 1, 2, 6, 7], []⟩, sh2, outs2, pre2, fn2⟩
noncomputable def H : List LC := [L2]
noncomputable def code (i : Nat) : Code := (loopsOf (bodyOf Try.f208)).getD i .skip
theorem lok2 : LoopOk E H (code 0) L2 := ⟨mu2, fun ⟨x1, x2, x3, x4, x5, x6, x7, x8, x9, x10, ()⟩ hp => rounds_ok (show L2.step E H (code 0) (x1, (x2, (x3, (x4, (x5, (x6, (x7, (x8, (x9, (x10, ())))))))))) = raw2 x1 x2 x3 x4 x5 x6 x7 x8 x9 x10 from by kernel_rfl) (ok2 x1 x2 x3 x4 x5 x6 x7 x8 x9 x10 hp)⟩
theorem env : EnvOk Try.prog E := env_cons spec_l4Copy.known (env_nil tys)
theorem loops : ∀ c, Try.f208.body = some c → LoopsOk E H c := loops_of (by kernel_rfl) (by kernel_rfl) fun i l h => match i, h with
  | 0, h => Option.some.inj h ▸ lok2
  | n + 1, h => by cases h
theorem sound : Sound Try.prog 208 fs := fn_sound env mixed Try.func208 H loops fun ⟨x0, x1, x2, ()⟩ hw hp => (show runFn E H Try.f208 fs.ps fs.rs (x0, (x1, (x2, ()))) = raw x0 x1 x2 from by kernel_rfl).trans (eq x0 x1 x2 hw hp)
theorem known : Seen Try.prog 208 fs := ⟨sound, _, Try.func208, by kernel_rfl, by kernel_rfl⟩
end spec_MakerOf
namespace spec_MakerAsk
noncomputable def fs : FS := ⟨[(.val tyS35 .f), (.val (.int .i64) .f), (.val (.int .i64) .f)], [((.int .i64), .o), ((.int .i64), .o)], fun x => spec_MakerAsk.pre x.1 x.2.1 x.2.2.1, fun x => ((), ((spec_MakerAsk x.1 x.2.1 x.2.2.1).1, ((spec_MakerAsk x.1 x.2.1 x.2.2.1).2, ())))⟩
noncomputable def E : Env := ⟨theta, [], []⟩
noncomputable def sh12 : ShSt := ⟨(uu :: uu :: ui :: (.one (.bptr 0 [] tyS35)) :: un 4 (ui :: un 40 [])), [(0, (.box tyS35 (.dat tyS35)))]⟩
noncomputable def outs12 : List OutC := [⟨.ret, ⟨0, [6, 7], []⟩, ⟨(un 6 (ui :: ui :: un 41 [])), []⟩⟩, ⟨(.exit 0), ⟨0, [], []⟩, ⟨(un 49 []), []⟩⟩]
noncomputable def L12 : LC := ⟨12, ⟨12, [2, 3, 8], []⟩, sh12, outs12, pre12, fn12⟩
noncomputable def H : List LC := [L12]
noncomputable def code (i : Nat) : Code := (loopsOf (bodyOf Try.f209)).getD i .skip
theorem lok12 : LoopOk E H (code 0) L12 := ⟨mu12, fun ⟨x1, x2, x3, ()⟩ hp => rounds_ok (show L12.step E H (code 0) (x1, (x2, (x3, ()))) = raw12 x1 x2 x3 from by kernel_rfl) (ok12 x1 x2 x3 hp)⟩
theorem env : EnvOk Try.prog E := env_nil tys
theorem loops : ∀ c, Try.f209.body = some c → LoopsOk E H c := loops_of (by kernel_rfl) (by kernel_rfl) fun i l h => match i, h with
  | 0, h => Option.some.inj h ▸ lok12
  | n + 1, h => by cases h
theorem sound : Sound Try.prog 209 fs := fn_sound env mixed Try.func209 H loops fun ⟨x0, x1, x2, ()⟩ hw hp => (show runFn E H Try.f209 fs.ps fs.rs (x0, (x1, (x2, ()))) = raw x0 x1 x2 from by kernel_rfl).trans (eq x0 x1 x2 hw hp)
theorem known : Seen Try.prog 209 fs := ⟨sound, _, Try.func209, by kernel_rfl, by kernel_rfl⟩
end spec_MakerAsk
namespace spec_l3Item
noncomputable def fs : FS := ⟨[(.val tyS313 .f)], [(.bool, .o)], fun x => spec_l3Item.pre x.1, fun x => ((), ((spec_l3Item x.1), ()))⟩
noncomputable def E : Env := ⟨theta, [(38, spec_l1In.fs), (143, spec_l2Text.fs)], []⟩
noncomputable def H : List LC := []
theorem env : EnvOk Try.prog E := env_cons spec_l1In.known (env_cons spec_l2Text.known (env_nil tys))
theorem loops : ∀ c, Try.f215.body = some c → LoopsOk E H c := loops_none (by kernel_rfl)
theorem sound : Sound Try.prog 215 fs := fn_sound env mixed Try.func215 H loops fun ⟨x0, ()⟩ hw hp => (show runFn E H Try.f215 fs.ps fs.rs (x0, ()) = raw x0 from by kernel_rfl).trans (eq x0 hw hp)
theorem known : Seen Try.prog 215 fs := ⟨sound, _, Try.func215, by kernel_rfl, by kernel_rfl⟩
end spec_l3Item
namespace spec_RowOk
noncomputable def ob1 : List (Nat × ShO) := [(0, (.box tyS33 (.dat tyS33)))]
noncomputable def fs : FS := ⟨[(.val tyS33 .f)], [(.bool, .o)], fun x => spec_RowOk.pre x.1, fun x => ((), ((spec_RowOk x.1), ()))⟩
noncomputable def E : Env := ⟨theta, [(38, spec_l1In.fs), (215, spec_l3Item.fs)], []⟩
noncomputable def sh2 : ShSt := ⟨(uu :: (.one (.bptr 0 [] tyS33)) :: uu :: ui :: un 65 []), ob1⟩
noncomputable def outs2 : List OutC := [⟨.ret, ⟨0, [2], []⟩, ⟨(uu :: uu :: (.one (.dat .bool)) :: un 66 []), []⟩⟩, ⟨(.exit 0), ⟨0, [1], []⟩, ⟨(uu :: (.one (.bptr 0 [] tyS33)) :: un 67 []), ob1⟩⟩]
noncomputable def L2 : LC := ⟨2, ⟨2, [1, 3], []⟩, sh2, outs2, pre2, fn2⟩
noncomputable def H : List LC := [L2]
noncomputable def code (i : Nat) : Code := (loopsOf (bodyOf Try.f213)).getD i .skip
theorem lok2 : LoopOk E H (code 0) L2 := ⟨mu2, fun ⟨x1, x2, ()⟩ hp => rounds_ok (show L2.step E H (code 0) (x1, (x2, ())) = raw2 x1 x2 from by kernel_rfl) (ok2 x1 x2 hp)⟩
theorem env : EnvOk Try.prog E := env_cons spec_l1In.known (env_cons spec_l3Item.known (env_nil tys))
theorem loops : ∀ c, Try.f213.body = some c → LoopsOk E H c := loops_of (by kernel_rfl) (by kernel_rfl) fun i l h => match i, h with
  | 0, h => Option.some.inj h ▸ lok2
  | n + 1, h => by cases h
theorem sound : Sound Try.prog 213 fs := fn_sound env mixed Try.func213 H loops fun ⟨x0, ()⟩ hw hp => (show runFn E H Try.f213 fs.ps fs.rs (x0, ()) = raw x0 from by kernel_rfl).trans (eq x0 hw hp)
theorem known : Seen Try.prog 213 fs := ⟨sound, _, Try.func213, by kernel_rfl, by kernel_rfl⟩
end spec_RowOk
namespace spec_RowPut
noncomputable def fs : FS := ⟨[(.val tyS33 .f), (.val .str .f), (.val .str .f), (.val (.int .i64) .f), (.val (.int .i64) .f)], [(tyS33, .o), ((.int .i64), .o), (.bool, .o)], fun x => spec_RowPut.pre x.1 x.2.1 x.2.2.1 x.2.2.2.1 x.2.2.2.2.1, fun x => ((), ((spec_RowPut x.1 x.2.1 x.2.2.1 x.2.2.2.1 x.2.2.2.2.1).1, ((spec_RowPut x.1 x.2.1 x.2.2.1 x.2.2.2.1 x.2.2.2.2.1).2.1, ((spec_RowPut x.1 x.2.1 x.2.2.1 x.2.2.2.1 x.2.2.2.2.1).2.2, ()))))⟩
noncomputable def E : Env := ⟨theta, [(178, spec_l3Copy.fs), (213, spec_RowOk.fs)], []⟩
noncomputable def H : List LC := []
theorem env : EnvOk Try.prog E := env_cons spec_l3Copy.known (env_cons spec_RowOk.known (env_nil tys))
theorem loops : ∀ c, Try.f210.body = some c → LoopsOk E H c := loops_none (by kernel_rfl)
theorem sound : Sound Try.prog 210 fs := fn_sound env mixed Try.func210 H loops fun ⟨x0, x1, x2, x3, x4, ()⟩ hw hp => (show runFn E H Try.f210 fs.ps fs.rs (x0, (x1, (x2, (x3, (x4, ()))))) = raw x0 x1 x2 x3 x4 from by kernel_rfl).trans (eq x0 x1 x2 x3 x4 hw hp)
theorem known : Seen Try.prog 210 fs := ⟨sound, _, Try.func210, by kernel_rfl, by kernel_rfl⟩
end spec_RowPut
namespace spec_l1Max
noncomputable def fs : FS := ⟨[(.val (.int .i64) .f), (.val (.int .i64) .f)], [((.int .i64), .o)], fun _ => true, fun x => ((), ((spec_l1Max x.1 x.2.1), ()))⟩
noncomputable def E : Env := ⟨theta, [], []⟩
noncomputable def H : List LC := []
theorem env : EnvOk Try.prog E := env_nil tys
theorem loops : ∀ c, Try.f34.body = some c → LoopsOk E H c := loops_none (by kernel_rfl)
theorem sound : Sound Try.prog 34 fs := fn_sound env mixed Try.func34 H loops fun ⟨x0, x1, ()⟩ hw _ => (show runFn E H Try.f34 fs.ps fs.rs (x0, (x1, ())) = raw x0 x1 from by kernel_rfl).trans (eq x0 x1 hw)
theorem known : Seen Try.prog 34 fs := ⟨sound, _, Try.func34, by kernel_rfl, by kernel_rfl⟩
end spec_l1Max
namespace spec_MakerPut
noncomputable def fs : FS := ⟨[(.val tyS35 .f), (.val (.int .i64) .f), (.val (.int .i64) .f), (.val (.int .i64) .f), (.val (.int .i64) .f)], [(tyS35, .o)], fun x => spec_MakerPut.pre x.1 x.2.1 x.2.2.1 x.2.2.2.1 x.2.2.2.2.1, fun x => ((), ((spec_MakerPut x.1 x.2.1 x.2.2.1 x.2.2.2.1 x.2.2.2.2.1), ()))⟩
noncomputable def E : Env := ⟨theta, [(179, spec_l4Copy.fs), (209, spec_MakerAsk.fs), (34, spec_l1Max.fs)], []⟩
noncomputable def H : List LC := []
theorem env : EnvOk Try.prog E := env_cons spec_l4Copy.known (env_cons spec_MakerAsk.known (env_cons spec_l1Max.known (env_nil tys)))
theorem loops : ∀ c, Try.f212.body = some c → LoopsOk E H c := loops_none (by kernel_rfl)
theorem sound : Sound Try.prog 212 fs := fn_sound env mixed Try.func212 H loops fun ⟨x0, x1, x2, x3, x4, ()⟩ hw hp => (show runFn E H Try.f212 fs.ps fs.rs (x0, (x1, (x2, (x3, (x4, ()))))) = raw x0 x1 x2 x3 x4 from by kernel_rfl).trans (eq x0 x1 x2 x3 x4 hw hp)
theorem known : Seen Try.prog 212 fs := ⟨sound, _, Try.func212, by kernel_rfl, by kernel_rfl⟩
end spec_MakerPut
namespace spec_MakerSet
noncomputable def ob1 : List (Nat × ShO) := [(0, (.box tyS35 (.dat tyS35))), (20000000, (.arr 203 tyS35))]
noncomputable def fs : FS := ⟨[(.val (.sl 203 tyS35) .f), (.val tyS35 .f)], [((.sl 203 tyS35), .o)], fun x => spec_MakerSet.pre x.1 x.2.1, fun x => ((), ((spec_MakerSet x.1 x.2.1), ()))⟩
noncomputable def E : Env := ⟨theta, [(179, spec_l4Copy.fs)], []⟩
noncomputable def sh4 : ShSt := ⟨((.one (.dat (.sl 203 tyS35))) :: uu :: uu :: (.one (.bptr 0 [] tyS35)) :: uu :: (.one (.arr 20000000)) :: (.one (.dat .bool)) :: ui :: un 72 []), ob1⟩
noncomputable def outs4 : List OutC := [⟨(.exit 0), ⟨0, [3, 5, 6], [(5, (203, tyS35))]⟩, ⟨(uu :: uu :: uu :: (.one (.bptr 0 [] tyS35)) :: uu :: (.one (.arr 20000000)) :: (.one (.dat .bool)) :: un 73 []), ob1⟩⟩]
noncomputable def L4 : LC := ⟨4, ⟨4, [0, 3, 5, 6, 7], [(5, (203, tyS35))]⟩, sh4, outs4, pre4, fn4⟩
noncomputable def H : List LC := [L4]
noncomputable def code (i : Nat) : Code := (loopsOf (bodyOf Try.f211)).getD i .skip
theorem lok4 : LoopOk E H (code 0) L4 := ⟨mu4, fun ⟨x1, x2, x3, x4, x5, ()⟩ hp => rounds_ok (show L4.step E H (code 0) (x1, (x2, (x3, (x4, (x5, ()))))) = raw4 x1 x2 x3 x4 x5 from by kernel_rfl) (ok4 x1 x2 x3 x4 x5 hp)⟩
theorem env : EnvOk Try.prog E := env_cons spec_l4Copy.known (env_nil tys)
theorem loops : ∀ c, Try.f211.body = some c → LoopsOk E H c := loops_of (by kernel_rfl) (by kernel_rfl) fun i l h => match i, h with
  | 0, h => Option.some.inj h ▸ lok4
  | n + 1, h => by cases h
theorem sound : Sound Try.prog 211 fs := fn_sound env mixed Try.func211 H loops fun ⟨x0, x1, ()⟩ hw hp => (show runFn E H Try.f211 fs.ps fs.rs (x0, (x1, ())) = raw x0 x1 from by kernel_rfl).trans (eq x0 x1 hw hp)
theorem known : Seen Try.prog 211 fs := ⟨sound, _, Try.func211, by kernel_rfl, by kernel_rfl⟩
end spec_MakerSet
namespace spec_l6Put
noncomputable def fs : FS := ⟨[(.val tyS316 .f), (.val tyS31 .o), (.val tyS32 .f)], [(tyS31, .o), (tyS39, .o)], fun x => spec_l6Put.pre x.1 x.2.1 x.2.2.1, fun x => ((), ((spec_l6Put x.1 x.2.1 x.2.2.1).1, ((spec_l6Put x.1 x.2.1 x.2.2.1).2, ())))⟩
noncomputable def E : Env := ⟨theta, [(208, spec_MakerOf.fs), (209, spec_MakerAsk.fs), (210, spec_RowPut.fs), (212, spec_MakerPut.fs), (211, spec_MakerSet.fs)], []⟩
noncomputable def H : List LC := []
theorem env : EnvOk Try.prog E := env_cons spec_MakerOf.known (env_cons spec_MakerAsk.known (env_cons spec_RowPut.known (env_cons spec_MakerPut.known (env_cons spec_MakerSet.known (env_nil tys)))))
theorem loops : ∀ c, Try.f196.body = some c → LoopsOk E H c := loops_none (by kernel_rfl)
theorem sound : Sound Try.prog 196 fs := fn_sound env mixed Try.func196 H loops fun ⟨x0, x1, x2, ()⟩ hw hp => (show runFn E H Try.f196 fs.ps fs.rs (x0, (x1, (x2, ()))) = raw x0 x1 x2 from by kernel_rfl).trans (eq x0 x1 x2 hw hp)
theorem known : Seen Try.prog 196 fs := ⟨sound, _, Try.func196, by kernel_rfl, by kernel_rfl⟩
end spec_l6Put
namespace spec_l6Epoch
noncomputable def fs : FS := ⟨[(.val tyS31 .o), (.val tyS32 .f)], [(tyS31, .o), (tyS39, .o)], fun x => spec_l6Epoch.pre x.1 x.2.1, fun x => ((), ((spec_l6Epoch x.1 x.2.1).1, ((spec_l6Epoch x.1 x.2.1).2, ())))⟩
noncomputable def E : Env := ⟨theta, [(208, spec_MakerOf.fs), (211, spec_MakerSet.fs)], []⟩
noncomputable def H : List LC := []
theorem env : EnvOk Try.prog E := env_cons spec_MakerOf.known (env_cons spec_MakerSet.known (env_nil tys))
theorem loops : ∀ c, Try.f197.body = some c → LoopsOk E H c := loops_none (by kernel_rfl)
theorem sound : Sound Try.prog 197 fs := fn_sound env mixed Try.func197 H loops fun ⟨x0, x1, ()⟩ hw hp => (show runFn E H Try.f197 fs.ps fs.rs (x0, (x1, ())) = raw x0 x1 from by kernel_rfl).trans (eq x0 x1 hw hp)
theorem known : Seen Try.prog 197 fs := ⟨sound, _, Try.func197, by kernel_rfl, by kernel_rfl⟩
end spec_l6Epoch
namespace spec_RowGet
noncomputable def ob1 : List (Nat × ShO) := [(32, (.box tyS313 (.dat tyS313)))]
noncomputable def fs : FS := ⟨[(.val tyS33 .f), (.val (.int .i64) .f)], [(tyS313, .o), ((.int .i64), .o)], fun x => spec_RowGet.pre x.1 x.2.1, fun x => ((), ((spec_RowGet x.1 x.2.1).1, ((spec_RowGet x.1 x.2.1).2, ())))⟩
noncomputable def E : Env := ⟨theta, [], []⟩
noncomputable def sh4 : ShSt := ⟨(uu :: ui :: (.one (.bptr 0 [] tyS33)) :: uu :: (.one (.bptr 32 [] tyS313)) :: uu :: ui :: un 26 []), [(0, (.box tyS33 (.dat tyS33))), (32, (.box tyS313 (.dat tyS313)))]⟩
noncomputable def outs4 : List OutC := [⟨.ret, ⟨0, [4, 5], []⟩, ⟨(un 4 ((.one (.bptr 32 [] tyS313)) :: ui :: un 27 [])), ob1⟩⟩, ⟨(.exit 0), ⟨0, [4], []⟩, ⟨(un 4 ((.one (.bptr 32 [] tyS313)) :: un 28 [])), ob1⟩⟩]
noncomputable def L4 : LC := ⟨4, ⟨4, [1, 2, 4, 6], []⟩, sh4, outs4, pre4, fn4⟩
noncomputable def H : List LC := [L4]
noncomputable def code (i : Nat) : Code := (loopsOf (bodyOf Try.f198)).getD i .skip
theorem lok4 : LoopOk E H (code 0) L4 := ⟨mu4, fun ⟨x1, x2, x3, x4, ()⟩ hp => rounds_ok (show L4.step E H (code 0) (x1, (x2, (x3, (x4, ())))) = raw4 x1 x2 x3 x4 from by kernel_rfl) (ok4 x1 x2 x3 x4 hp)⟩
theorem env : EnvOk Try.prog E := env_nil tys
theorem loops : ∀ c, Try.f198.body = some c → LoopsOk E H c := loops_of (by kernel_rfl) (by kernel_rfl) fun i l h => match i, h with
  | 0, h => Option.some.inj h ▸ lok4
  | n + 1, h => by cases h
theorem sound : Sound Try.prog 198 fs := fn_sound env mixed Try.func198 H loops fun ⟨x0, x1, ()⟩ hw hp => (show runFn E H Try.f198 fs.ps fs.rs (x0, (x1, ())) = raw x0 x1 from by kernel_rfl).trans (eq x0 x1 hw hp)
theorem known : Seen Try.prog 198 fs := ⟨sound, _, Try.func198, by kernel_rfl, by kernel_rfl⟩
end spec_RowGet
namespace spec_RowTrim
noncomputable def ob1 : List (Nat × ShO) := [(0, (.box tyS33 (.dat tyS33))), (32, (.box tyS33 (.pair (.dat (.int .i64)) (.pair (.dat (.int .i64)) (.pair (.arr 20000000) (.dat .unit)))))), (20000000, (.arr 200 tyS313)), (8256, (.box tyS33 (.pair (.dat (.int .i64)) (.pair (.dat (.int .i64)) (.pair (.arr 20000001) (.dat .unit)))))), (20000001, (.arr 200 tyS313))]
noncomputable def fs : FS := ⟨[(.val tyS33 .f), (.val (.int .i64) .f), (.val (.int .i64) .f)], [(tyS33, .o)], fun x => spec_RowTrim.pre x.1 x.2.1 x.2.2.1, fun x => ((), ((spec_RowTrim x.1 x.2.1 x.2.2.1), ()))⟩
noncomputable def E : Env := ⟨theta, [(178, spec_l3Copy.fs), (213, spec_RowOk.fs)], []⟩
noncomputable def sh9 : ShSt := ⟨(uu :: ui :: ui :: (.one (.bptr 0 [] tyS33)) :: uu :: uu :: (.one (.bptr 32 [] tyS33)) :: (.one (.bptr 8256 [] tyS33)) :: ui :: ui :: un 66 []), ob1⟩
noncomputable def outs9 : List OutC := [⟨(.exit 2), ⟨0, [1, 2, 3, 6, 7, 8, 9], []⟩, ⟨(uu :: ui :: ui :: (.one (.bptr 0 [] tyS33)) :: uu :: uu :: (.one (.bptr 32 [] tyS33)) :: (.one (.bptr 8256 [] tyS33)) :: ui :: ui :: un 66 []), ob1⟩⟩]
noncomputable def L9 : LC := ⟨9, ⟨9, [1, 2, 3, 6, 7, 8, 9], []⟩, sh9, outs9, pre9, fn9⟩
noncomputable def sh4 : ShSt := ⟨(uu :: ui :: ui :: (.one (.bptr 0 [] tyS33)) :: uu :: uu :: (.one (.bptr 32 [] tyS33)) :: (.one (.bptr 8256 [] tyS33)) :: un 68 []), ob1⟩
noncomputable def outs4 : List OutC := [⟨.ret, ⟨0, [6], []⟩, ⟨(un 6 ((.one (.bptr 32 [] tyS33)) :: un 69 [])), [(32, (.box tyS33 (.pair (.dat (.int .i64)) (.pair (.dat (.int .i64)) (.pair (.arr 20000000) (.dat .unit)))))), (20000000, (.arr 200 tyS313))]⟩⟩, ⟨(.exit 0), ⟨0, [6, 7], []⟩, ⟨(un 6 ((.one (.bptr 32 [] tyS33)) :: (.one (.bptr 8256 [] tyS33)) :: un 68 [])), [(32, (.box tyS33 (.pair (.dat (.int .i64)) (.pair (.dat (.int .i64)) (.pair (.arr 20000000) (.dat .unit)))))), (20000000, (.arr 200 tyS313)), (8256, (.box tyS33 (.pair (.dat (.int .i64)) (.pair (.dat (.int .i64)) (.pair (.arr 20000001) (.dat .unit)))))), (20000001, (.arr 200 tyS313))]⟩⟩]
noncomputable def L4 : LC := ⟨4, ⟨4, [1, 2, 3, 6, 7], []⟩, sh4, outs4, pre4, fn4⟩
noncomputable def H : List LC := [L4, L9]
noncomputable def code (i : Nat) : Code := (loopsOf (bodyOf Try.f199)).getD i .skip
theorem lok4 : LoopOk E H (code 0) L4 := ⟨mu4, fun ⟨x1, x2, x3, x4, x5, x6, x7, x8, x9, x10, x11, ()⟩ hp => rounds_ok (show L4.step E H (code 0) (x1, (x2, (x3, (x4, (x5, (x6, (x7, (x8, (x9, (x10, (x11, ()))))))))))) = raw4 x1 x2 x3 x4 x5 x6 x7 x8 x9 x10 x11 from by kernel_rfl) (ok4 x1 x2 x3 x4 x5 x6 x7 x8 x9 x10 x11 hp)⟩
theorem lok9 : LoopOk E H (code 1) L9 := ⟨mu9, fun ⟨x1, x2, x3, x4, x5, x6, x7, x8, x9, x10, x11, x12, x13, ()⟩ hp => rounds_ok (show L9.step E H (code 1) (x1, (x2, (x3, (x4, (x5, (x6, (x7, (x8, (x9, (x10, (x11, (x12, (x13, ()))))))))))))) = raw9 x1 x2 x3 x4 x5 x6 x7 x8 x9 x10 x11 x12 x13 from by kernel_rfl) (ok9 x1 x2 x3 x4 x5 x6 x7 x8 x9 x10 x11 x12 x13 hp)⟩
theorem env : EnvOk Try.prog E := env_cons spec_l3Copy.known (env_cons spec_RowOk.known (env_nil tys))
theorem loops : ∀ c, Try.f199.body = some c → LoopsOk E H c := loops_of (by kernel_rfl) (by kernel_rfl) fun i l h => match i, h with
  | 0, h => Option.some.inj h ▸ lok4
  | 1, h => Option.some.inj h ▸ lok9
  | n + 2, h => by cases h
theorem sound : Sound Try.prog 199 fs := fn_sound env mixed Try.func199 H loops fun ⟨x0, x1, x2, ()⟩ hw hp => (show runFn E H Try.f199 fs.ps fs.rs (x0, (x1, (x2, ()))) = raw x0 x1 x2 from by kernel_rfl).trans (eq x0 x1 x2 hw hp)
theorem known : Seen Try.prog 199 fs := ⟨sound, _, Try.func199, by kernel_rfl, by kernel_rfl⟩
end spec_RowTrim
namespace spec_l3Behind
noncomputable def fs : FS := ⟨[(.val tyS33 .f), (.val (.int .i64) .f)], [(.bool, .o)], fun x => spec_l3Behind.pre x.1 x.2.1, fun x => ((), ((spec_l3Behind x.1 x.2.1), ()))⟩
noncomputable def E : Env := ⟨theta, [], []⟩
noncomputable def sh2 : ShSt := ⟨(uu :: ui :: (.one (.bptr 0 [] tyS33)) :: uu :: uu :: ui :: un 22 []), [(0, (.box tyS33 (.dat tyS33)))]⟩
noncomputable def outs2 : List OutC := [⟨.ret, ⟨0, [4], []⟩, ⟨(un 4 ((.one (.dat .bool)) :: un 23 [])), []⟩⟩, ⟨(.exit 0), ⟨0, [], []⟩, ⟨(un 28 []), []⟩⟩]
noncomputable def L2 : LC := ⟨2, ⟨2, [1, 2, 5], []⟩, sh2, outs2, pre2, fn2⟩
noncomputable def H : List LC := [L2]
noncomputable def code (i : Nat) : Code := (loopsOf (bodyOf Try.f214)).getD i .skip
theorem lok2 : LoopOk E H (code 0) L2 := ⟨mu2, fun ⟨x1, x2, x3, ()⟩ hp => rounds_ok (show L2.step E H (code 0) (x1, (x2, (x3, ()))) = raw2 x1 x2 x3 from by kernel_rfl) (ok2 x1 x2 x3 hp)⟩
theorem env : EnvOk Try.prog E := env_nil tys
theorem loops : ∀ c, Try.f214.body = some c → LoopsOk E H c := loops_of (by kernel_rfl) (by kernel_rfl) fun i l h => match i, h with
  | 0, h => Option.some.inj h ▸ lok2
  | n + 1, h => by cases h
theorem sound : Sound Try.prog 214 fs := fn_sound env mixed Try.func214 H loops fun ⟨x0, x1, ()⟩ hw hp => (show runFn E H Try.f214 fs.ps fs.rs (x0, (x1, ())) = raw x0 x1 from by kernel_rfl).trans (eq x0 x1 hw hp)
theorem known : Seen Try.prog 214 fs := ⟨sound, _, Try.func214, by kernel_rfl, by kernel_rfl⟩
end spec_l3Behind
namespace spec_RowPack
noncomputable def fs : FS := ⟨[(.val tyS33 .f), (.val (.int .i64) .f)], [(tyS33, .o)], fun x => spec_RowPack.pre x.1 x.2.1, fun x => ((), ((spec_RowPack x.1 x.2.1), ()))⟩
noncomputable def E : Env := ⟨theta, [(178, spec_l3Copy.fs), (213, spec_RowOk.fs), (214, spec_l3Behind.fs)], []⟩
noncomputable def sh5 : ShSt := ⟨(uu :: ui :: (.one (.bptr 0 [] tyS33)) :: uu :: (.one (.bptr 32 [] tyS33)) :: (.one (.bptr 24736 [] tyS33)) :: ui :: un 55 []), [(0, (.box tyS33 (.dat tyS33))), (32, (.box tyS33 (.pair (.dat (.int .i64)) (.pair (.dat (.int .i64)) (.pair (.arr 20000000) (.dat .unit)))))), (20000000, (.arr 200 tyS313)), (24736, (.box tyS33 (.pair (.dat (.int .i64)) (.pair (.dat (.int .i64)) (.pair (.arr 20000001) (.dat .unit)))))), (20000001, (.arr 200 tyS313))]⟩
noncomputable def outs5 : List OutC := [⟨(.exit 0), ⟨0, [4, 5], []⟩, ⟨(un 4 ((.one (.bptr 32 [] tyS33)) :: (.one (.bptr 24736 [] tyS33)) :: un 56 [])), [(32, (.box tyS33 (.pair (.dat (.int .i64)) (.pair (.dat (.int .i64)) (.pair (.arr 20000000) (.dat .unit)))))), (20000000, (.arr 200 tyS313)), (24736, (.box tyS33 (.pair (.dat (.int .i64)) (.pair (.dat (.int .i64)) (.pair (.arr 20000001) (.dat .unit)))))), (20000001, (.arr 200 tyS313))]⟩⟩]
noncomputable def L5 : LC := ⟨5, ⟨5, [1, 2, 4, 5, 6], []⟩, sh5, outs5, pre5, fn5⟩
noncomputable def H : List LC := [L5]
noncomputable def code (i : Nat) : Code := (loopsOf (bodyOf Try.f200)).getD i .skip
theorem lok5 : LoopOk E H (code 0) L5 := ⟨mu5, fun ⟨x1, x2, x3, x4, x5, x6, x7, x8, x9, x10, x11, ()⟩ hp => rounds_ok (show L5.step E H (code 0) (x1, (x2, (x3, (x4, (x5, (x6, (x7, (x8, (x9, (x10, (x11, ()))))))))))) = raw5 x1 x2 x3 x4 x5 x6 x7 x8 x9 x10 x11 from by kernel_rfl) (ok5 x1 x2 x3 x4 x5 x6 x7 x8 x9 x10 x11 hp)⟩
theorem env : EnvOk Try.prog E := env_cons spec_l3Copy.known (env_cons spec_RowOk.known (env_cons spec_l3Behind.known (env_nil tys)))
theorem loops : ∀ c, Try.f200.body = some c → LoopsOk E H c := loops_of (by kernel_rfl) (by kernel_rfl) fun i l h => match i, h with
  | 0, h => Option.some.inj h ▸ lok5
  | n + 1, h => by cases h
theorem sound : Sound Try.prog 200 fs := fn_sound env mixed Try.func200 H loops fun ⟨x0, x1, ()⟩ hw hp => (show runFn E H Try.f200 fs.ps fs.rs (x0, (x1, ())) = raw x0 x1 from by kernel_rfl).trans (eq x0 x1 hw hp)
theorem known : Seen Try.prog 200 fs := ⟨sound, _, Try.func200, by kernel_rfl, by kernel_rfl⟩
end spec_RowPack
namespace spec_l6Row
noncomputable def fs : FS := ⟨[(.val tyS316 .f), (.val tyS31 .o), (.val tyS32 .f)], [(tyS31, .o), (tyS39, .o)], fun x => spec_l6Row.pre x.1 x.2.1 x.2.2.1, fun x => ((), ((spec_l6Row x.1 x.2.1 x.2.2.1).1, ((spec_l6Row x.1 x.2.1 x.2.2.1).2, ())))⟩
noncomputable def E : Env := ⟨theta, [(196, spec_l6Put.fs), (197, spec_l6Epoch.fs), (198, spec_RowGet.fs), (199, spec_RowTrim.fs), (200, spec_RowPack.fs)], []⟩
noncomputable def H : List LC := []
theorem env : EnvOk Try.prog E := env_cons spec_l6Put.known (env_cons spec_l6Epoch.known (env_cons spec_RowGet.known (env_cons spec_RowTrim.known (env_cons spec_RowPack.known (env_nil tys)))))
theorem loops : ∀ c, Try.f183.body = some c → LoopsOk E H c := loops_none (by kernel_rfl)
theorem sound : Sound Try.prog 183 fs := fn_sound env mixed Try.func183 H loops fun ⟨x0, x1, x2, ()⟩ hw hp => (show runFn E H Try.f183 fs.ps fs.rs (x0, (x1, (x2, ()))) = raw x0 x1 x2 from by kernel_rfl).trans (eq x0 x1 x2 hw hp)
theorem known : Seen Try.prog 183 fs := ⟨sound, _, Try.func183, by kernel_rfl, by kernel_rfl⟩
end spec_l6Row
namespace spec_l6New
noncomputable def ob1 : List (Nat × ShO) := [(32, (.box tyS31 (.pair (.arr 20000000) (.pair (.arr 20000001) (.pair (.arr 20000002) (.pair (.dat (.int .i64)) (.pair (.arr 20000003) (.pair (.arr 20000004) (.dat .unit))))))))), (20000000, (.arr 197 tyS33)), (20000001, (.arr 203 tyS35)), (20000002, (.arr 207 tyS36)), (20000003, (.arr 3 (.int .i64))), (20000004, (.arr 101 tyS39)), (96, (.box tyS31 (.pair (.arr 20000005) (.pair (.arr 20000006) (.pair (.arr 20000007) (.pair (.dat (.int .i64)) (.pair (.arr 20000008) (.pair (.arr 20000009) (.dat .unit))))))))), (20000005, (.arr 197 tyS33)), (20000006, (.arr 203 tyS35)), (20000007, (.arr 207 tyS36)), (20000008, (.arr 3 (.int .i64))), (20000009, (.arr 101 tyS39)), (128, (.box tyS39 (.dat tyS39)))]
noncomputable def fs : FS := ⟨[(.val tyS316 .f), (.val tyS31 .o), (.val tyS32 .f)], [(tyS31, .o), (tyS39, .o)], fun x => spec_l6New.pre x.1 x.2.1 x.2.2.1, fun x => ((), ((spec_l6New x.1 x.2.1 x.2.2.1).1, ((spec_l6New x.1 x.2.1 x.2.2.1).2, ())))⟩
noncomputable def E : Env := ⟨theta, [(38, spec_l1In.fs), (35, spec_l1Min.fs), (181, spec_GroupTick.fs), (182, spec_l6Group.fs), (183, spec_l6Row.fs)], []⟩
noncomputable def sh4 : ShSt := ⟨(un 4 ((.one (.bptr 32 [] tyS31)) :: uu :: (.one (.bptr 96 [] tyS31)) :: (.one (.bptr 128 [] tyS39)) :: ui :: un 70 [])), ob1⟩
noncomputable def outs4 : List OutC := [⟨(.exit 0), ⟨0, [4, 6, 7], []⟩, ⟨(un 4 ((.one (.bptr 32 [] tyS31)) :: uu :: (.one (.bptr 96 [] tyS31)) :: (.one (.bptr 128 [] tyS39)) :: un 71 [])), ob1⟩⟩]
noncomputable def L4 : LC := ⟨4, ⟨4, [4, 6, 7, 8], []⟩, sh4, outs4, pre4, fn4⟩
noncomputable def H : List LC := [L4]
noncomputable def code (i : Nat) : Code := (loopsOf (bodyOf Try.f167)).getD i .skip
theorem lok4 : LoopOk E H (code 0) L4 := ⟨mu4, fun ⟨x1, x2, x3, x4, x5, x6, x7, x8, x9, x10, x11, x12, x13, x14, x15, x16, ()⟩ hp => rounds_ok (show L4.step E H (code 0) (x1, (x2, (x3, (x4, (x5, (x6, (x7, (x8, (x9, (x10, (x11, (x12, (x13, (x14, (x15, (x16, ())))))))))))))))) = raw4 x1 x2 x3 x4 x5 x6 x7 x8 x9 x10 x11 x12 x13 x14 x15 x16 from by kernel_rfl) (ok4 x1 x2 x3 x4 x5 x6 x7 x8 x9 x10 x11 x12 x13 x14 x15 x16 hp)⟩
theorem env : EnvOk Try.prog E := env_cons spec_l1In.known (env_cons spec_l1Min.known (env_cons spec_GroupTick.known (env_cons spec_l6Group.known (env_cons spec_l6Row.known (env_nil tys)))))
theorem loops : ∀ c, Try.f167.body = some c → LoopsOk E H c := loops_of (by kernel_rfl) (by kernel_rfl) fun i l h => match i, h with
  | 0, h => Option.some.inj h ▸ lok4
  | n + 1, h => by cases h
theorem sound : Sound Try.prog 167 fs := fn_sound env mixed Try.func167 H loops fun ⟨x0, x1, x2, ()⟩ hw hp => (show runFn E H Try.f167 fs.ps fs.rs (x0, (x1, (x2, ()))) = raw x0 x1 x2 from by kernel_rfl).trans (eq x0 x1 x2 hw hp)
theorem known : Seen Try.prog 167 fs := ⟨sound, _, Try.func167, by kernel_rfl, by kernel_rfl⟩
end spec_l6New
namespace spec_l6Do
noncomputable def fs : FS := ⟨[(.val tyS316 .f), (.val tyS31 .f), (.val tyS32 .f)], [(tyS31, .o), (tyS39, .o)], fun x => spec_l6Do.pre x.1 x.2.1 x.2.2.1, fun x => ((), ((spec_l6Do x.1 x.2.1 x.2.2.1).1, ((spec_l6Do x.1 x.2.1 x.2.2.1).2, ())))⟩
noncomputable def E : Env := ⟨theta, [(166, spec_l6Copy.fs), (167, spec_l6New.fs)], []⟩
noncomputable def H : List LC := []
theorem env : EnvOk Try.prog E := env_cons spec_l6Copy.known (env_cons spec_l6New.known (env_nil tys))
theorem loops : ∀ c, Try.f140.body = some c → LoopsOk E H c := loops_none (by kernel_rfl)
theorem sound : Sound Try.prog 140 fs := fn_sound env mixed Try.func140 H loops fun ⟨x0, x1, x2, ()⟩ hw hp => (show runFn E H Try.f140 fs.ps fs.rs (x0, (x1, (x2, ()))) = raw x0 x1 x2 from by kernel_rfl).trans (eq x0 x1 x2 hw hp)
theorem known : Seen Try.prog 140 fs := ⟨sound, _, Try.func140, by kernel_rfl, by kernel_rfl⟩
end spec_l6Do
namespace spec_KeepAll
noncomputable def fs : FS := ⟨[(.val tyS316 .f), (.val (.sl 87 tyS32) .f)], [(tyS31, .o), ((.sl 101 tyS39), .o)], fun x => spec_KeepAll.pre x.1 x.2.1, fun x => ((), ((spec_KeepAll x.1 x.2.1).1, ((spec_KeepAll x.1 x.2.1).2, ())))⟩
noncomputable def E : Env := ⟨theta, [(139, spec_SetupOk.fs), (138, spec_KeepNew.fs), (117, spec_CmdOk.fs), (140, spec_l6Do.fs)], []⟩
noncomputable def sh4 : ShSt := ⟨(uu :: (.one (.dat (.sl 87 tyS32))) :: (.one (.bptr 0 [] tyS316)) :: uu :: (.one (.bptr 32 [] tyS31)) :: uu :: (.one (.arr 20000005)) :: (.one (.bptr 16448 [] tyS31)) :: ui :: un 40 []), [(0, (.box tyS316 (.dat tyS316))), (32, (.box tyS31 (.pair (.arr 20000000) (.pair (.arr 20000001) (.pair (.arr 20000002) (.pair (.dat (.int .i64)) (.pair (.arr 20000003) (.pair (.arr 20000004) (.dat .unit))))))))), (20000000, (.arr 197 tyS33)), (20000001, (.arr 203 tyS35)), (20000002, (.arr 207 tyS36)), (20000003, (.arr 3 (.int .i64))), (20000004, (.arr 101 tyS39)), (20000005, (.arr 101 tyS39)), (16448, (.box tyS31 (.pair (.arr 20000006) (.pair (.arr 20000007) (.pair (.arr 20000008) (.pair (.dat (.int .i64)) (.pair (.arr 20000009) (.pair (.arr 20000010) (.dat .unit))))))))), (20000006, (.arr 197 tyS33)), (20000007, (.arr 203 tyS35)), (20000008, (.arr 207 tyS36)), (20000009, (.arr 3 (.int .i64))), (20000010, (.arr 101 tyS39))]⟩
noncomputable def outs4 : List OutC := [⟨(.exit 0), ⟨0, [4, 6, 7], [(6, (101, tyS39))]⟩, ⟨(un 4 ((.one (.bptr 32 [] tyS31)) :: uu :: (.one (.arr 20000005)) :: (.one (.bptr 16448 [] tyS31)) :: un 41 [])), [(32, (.box tyS31 (.pair (.arr 20000000) (.pair (.arr 20000001) (.pair (.arr 20000002) (.pair (.dat (.int .i64)) (.pair (.arr 20000003) (.pair (.arr 20000004) (.dat .unit))))))))), (20000000, (.arr 197 tyS33)), (20000001, (.arr 203 tyS35)), (20000002, (.arr 207 tyS36)), (20000003, (.arr 3 (.int .i64))), (20000004, (.arr 101 tyS39)), (20000005, (.arr 101 tyS39)), (16448, (.box tyS31 (.pair (.arr 20000006) (.pair (.arr 20000007) (.pair (.arr 20000008) (.pair (.dat (.int .i64)) (.pair (.arr 20000009) (.pair (.arr 20000010) (.dat .unit))))))))), (20000006, (.arr 197 tyS33)), (20000007, (.arr 203 tyS35)), (20000008, (.arr 207 tyS36)), (20000009, (.arr 3 (.int .i64))), (20000010, (.arr 101 tyS39))]⟩⟩]
noncomputable def L4 : LC := ⟨4, ⟨4, [1, 2, 4, 6, 7, 8], [(6, (101, tyS39))]⟩, sh4, outs4, pre4, fn4⟩
noncomputable def H : List LC := [L4]
noncomputable def code (i : Nat) : Code := (loopsOf (bodyOf Try.f111)).getD i .skip
theorem lok4 : LoopOk E H (code 0) L4 := ⟨mu4, fun ⟨x1, x2, x3, x4, x5, x6, x7, x8, x9, x10, x11, x12, x13, x14, x15, x16, x17, x18, ()⟩ hp => rounds_ok (show L4.step E H (code 0) (x1, (x2, (x3, (x4, (x5, (x6, (x7, (x8, (x9, (x10, (x11, (x12, (x13, (x14, (x15, (x16, (x17, (x18, ())))))))))))))))))) = raw4 x1 x2 x3 x4 x5 x6 x7 x8 x9 x10 x11 x12 x13 x14 x15 x16 x17 x18 from by kernel_rfl) (ok4 x1 x2 x3 x4 x5 x6 x7 x8 x9 x10 x11 x12 x13 x14 x15 x16 x17 x18 hp)⟩
theorem env : EnvOk Try.prog E := env_cons spec_SetupOk.known (env_cons spec_KeepNew.known (env_cons spec_CmdOk.known (env_cons spec_l6Do.known (env_nil tys))))
theorem loops : ∀ c, Try.f111.body = some c → LoopsOk E H c := loops_of (by kernel_rfl) (by kernel_rfl) fun i l h => match i, h with
  | 0, h => Option.some.inj h ▸ lok4
  | n + 1, h => by cases h
theorem sound : Sound Try.prog 111 fs := fn_sound env mixed Try.func111 H loops fun ⟨x0, x1, ()⟩ hw hp => (show runFn E H Try.f111 fs.ps fs.rs (x0, (x1, ())) = raw x0 x1 from by kernel_rfl).trans (eq x0 x1 hw hp)
theorem known : Seen Try.prog 111 fs := ⟨sound, _, Try.func111, by kernel_rfl, by kernel_rfl⟩
end spec_KeepAll
namespace spec_l6DrawRight
noncomputable def fs : FS := ⟨[(.ref (.pair (.sl 5 (.int .u8)) tyS38) .f)], [(tyS316, .o), (tyS31, .o)], fun x => spec_l6DrawRight.pre x.1, fun x => (((spec_l6DrawRight x.1).1, ()), ((spec_l6DrawRight x.1).2.1, ((spec_l6DrawRight x.1).2.2, ())))⟩
noncomputable def E : Env := ⟨theta, [(110, spec_l1DrawRight.fs), (112, spec_l6DrawCmds.fs), (111, spec_KeepAll.fs)], []⟩
noncomputable def H : List LC := []
theorem env : EnvOk Try.prog E := env_cons spec_l1DrawRight.known (env_cons spec_l6DrawCmds.known (env_cons spec_KeepAll.known (env_nil tys)))
theorem loops : ∀ c, Try.f76.body = some c → LoopsOk E H c := loops_none (by kernel_rfl)
theorem sound : Sound Try.prog 76 fs := fn_sound env mixed Try.func76 H loops fun ⟨x0, ()⟩ hw hp => (show runFn E H Try.f76 fs.ps fs.rs (x0, ()) = raw x0 from by kernel_rfl).trans (eq x0 hw hp)
theorem known : Seen Try.prog 76 fs := ⟨sound, _, Try.func76, by kernel_rfl, by kernel_rfl⟩
end spec_l6DrawRight
namespace spec_PutNum
noncomputable def fs : FS := ⟨[(.val (.int .i64) .f)], [((.sl 5 (.int .u8)), .o)], fun _ => true, fun x => ((), ((spec_PutNum x.1), ()))⟩
noncomputable def E : Env := ⟨theta, [(38, spec_l1In.fs)], []⟩
noncomputable def sh4 : ShSt := ⟨(ui :: uu :: uu :: (.one (.arr 20000000)) :: un 21 []), [(20000000, (.arr 5 (.int .u8)))]⟩
noncomputable def outs4 : List OutC := [⟨(.exit 0), ⟨0, [0, 3], [(3, (5, (.int .u8)))]⟩, ⟨(ui :: uu :: uu :: (.one (.arr 20000000)) :: un 21 []), [(20000000, (.arr 5 (.int .u8)))]⟩⟩]
noncomputable def L4 : LC := ⟨4, ⟨4, [0, 3], [(3, (5, (.int .u8)))]⟩, sh4, outs4, pre4, fn4⟩
noncomputable def H : List LC := [L4]
noncomputable def code (i : Nat) : Code := (loopsOf (bodyOf Try.f75)).getD i .skip
theorem lok4 : LoopOk E H (code 0) L4 := ⟨mu4, fun ⟨x1, x2, ()⟩ hp => rounds_ok (show L4.step E H (code 0) (x1, (x2, ())) = raw4 x1 x2 from by kernel_rfl) (ok4 x1 x2 hp)⟩
theorem env : EnvOk Try.prog E := env_cons spec_l1In.known (env_nil tys)
theorem loops : ∀ c, Try.f75.body = some c → LoopsOk E H c := loops_of (by kernel_rfl) (by kernel_rfl) fun i l h => match i, h with
  | 0, h => Option.some.inj h ▸ lok4
  | n + 1, h => by cases h
theorem sound : Sound Try.prog 75 fs := fn_sound env mixed Try.func75 H loops fun ⟨x0, ()⟩ hw _ => (show runFn E H Try.f75 fs.ps fs.rs (x0, ()) = raw x0 from by kernel_rfl).trans (eq x0 hw)
theorem known : Seen Try.prog 75 fs := ⟨sound, _, Try.func75, by kernel_rfl, by kernel_rfl⟩
end spec_PutNum
namespace spec_l7Nums
noncomputable def fs : FS := ⟨[(.val (.sl 3 (.int .i64)) .f)], [((.sl 5 (.int .u8)), .o)], fun x => spec_l7Nums.pre x.1, fun x => ((), ((spec_l7Nums x.1), ()))⟩
noncomputable def E : Env := ⟨theta, [(75, spec_PutNum.fs)], []⟩
noncomputable def sh3 : ShSt := ⟨((.one (.dat (.sl 3 (.int .i64)))) :: uu :: uu :: (.one (.arr 20000000)) :: ui :: un 15 []), [(20000000, (.arr 5 (.int .u8)))]⟩
noncomputable def outs3 : List OutC := [⟨(.exit 0), ⟨0, [3], [(3, (5, (.int .u8)))]⟩, ⟨(uu :: uu :: uu :: (.one (.arr 20000000)) :: un 16 []), [(20000000, (.arr 5 (.int .u8)))]⟩⟩]
noncomputable def L3 : LC := ⟨3, ⟨3, [0, 3, 4], [(3, (5, (.int .u8)))]⟩, sh3, outs3, pre3, fn3⟩
noncomputable def H : List LC := [L3]
noncomputable def code (i : Nat) : Code := (loopsOf (bodyOf Try.f113)).getD i .skip
theorem lok3 : LoopOk E H (code 0) L3 := ⟨mu3, fun ⟨x1, x2, x3, ()⟩ hp => rounds_ok (show L3.step E H (code 0) (x1, (x2, (x3, ()))) = raw3 x1 x2 x3 from by kernel_rfl) (ok3 x1 x2 x3 hp)⟩
theorem env : EnvOk Try.prog E := env_cons spec_PutNum.known (env_nil tys)
theorem loops : ∀ c, Try.f113.body = some c → LoopsOk E H c := loops_of (by kernel_rfl) (by kernel_rfl) fun i l h => match i, h with
  | 0, h => Option.some.inj h ▸ lok3
  | n + 1, h => by cases h
theorem sound : Sound Try.prog 113 fs := fn_sound env mixed Try.func113 H loops fun ⟨x0, ()⟩ hw hp => (show runFn E H Try.f113 fs.ps fs.rs (x0, ()) = raw x0 from by kernel_rfl).trans (eq x0 hw hp)
theorem known : Seen Try.prog 113 fs := ⟨sound, _, Try.func113, by kernel_rfl, by kernel_rfl⟩
end spec_l7Nums
namespace spec_PutText
noncomputable def fs : FS := ⟨[(.val .str .f)], [((.sl 5 (.int .u8)), .o)], fun x => spec_PutText.pre x.1, fun x => ((), ((spec_PutText x.1), ()))⟩
noncomputable def E : Env := ⟨theta, [(75, spec_PutNum.fs)], []⟩
noncomputable def H : List LC := []
theorem env : EnvOk Try.prog E := env_cons spec_PutNum.known (env_nil tys)
theorem loops : ∀ c, Try.f109.body = some c → LoopsOk E H c := loops_none (by kernel_rfl)
theorem sound : Sound Try.prog 109 fs := fn_sound env mixed Try.func109 H loops fun ⟨x0, ()⟩ hw hp => (show runFn E H Try.f109 fs.ps fs.rs (x0, ()) = raw x0 from by kernel_rfl).trans (eq x0 hw hp)
theorem known : Seen Try.prog 109 fs := ⟨sound, _, Try.func109, by kernel_rfl, by kernel_rfl⟩
end spec_PutText
namespace spec_l7Bytes
noncomputable def ob1 : List (Nat × ShO) := [(0, (.box tyS31 (.dat tyS31))), (20000000, (.arr 5 (.int .u8)))]
noncomputable def ob2 : List (Nat × ShO) := [(0, (.box tyS31 (.dat tyS31))), (20000000, (.arr 5 (.int .u8))), (237728, (.box tyS36 (.dat tyS36)))]
noncomputable def fs : FS := ⟨[(.val tyS31 .f)], [((.sl 5 (.int .u8)), .o)], fun x => spec_l7Bytes.pre x.1, fun x => ((), ((spec_l7Bytes x.1), ()))⟩
noncomputable def E : Env := ⟨theta, [(75, spec_PutNum.fs), (113, spec_l7Nums.fs), (109, spec_PutText.fs)], []⟩
noncomputable def sh8 : ShSt := ⟨(uu :: (.one (.bptr 0 [] tyS31)) :: uu :: (.one (.arr 20000000)) :: ui :: (.one (.bptr 41120 [] tyS33)) :: ui :: un 223 []), [(0, (.box tyS31 (.dat tyS31))), (20000000, (.arr 5 (.int .u8))), (41120, (.box tyS33 (.dat tyS33)))]⟩
noncomputable def outs8 : List OutC := [⟨(.exit 2), ⟨0, [1, 3, 4], [(3, (5, (.int .u8)))]⟩, ⟨(uu :: (.one (.bptr 0 [] tyS31)) :: uu :: (.one (.arr 20000000)) :: ui :: un 225 []), ob1⟩⟩]
noncomputable def L8 : LC := ⟨8, ⟨8, [1, 3, 4, 5, 6], [(3, (5, (.int .u8)))]⟩, sh8, outs8, pre8, fn8⟩
noncomputable def sh3 : ShSt := ⟨(uu :: (.one (.bptr 0 [] tyS31)) :: uu :: (.one (.arr 20000000)) :: ui :: un 225 []), ob1⟩
noncomputable def outs3 : List OutC := [⟨(.exit 0), ⟨0, [1, 3], [(3, (5, (.int .u8)))]⟩, ⟨(uu :: (.one (.bptr 0 [] tyS31)) :: uu :: (.one (.arr 20000000)) :: un 226 []), ob1⟩⟩]
noncomputable def L3 : LC := ⟨3, ⟨3, [1, 3, 4], [(3, (5, (.int .u8)))]⟩, sh3, outs3, pre3, fn3⟩
noncomputable def sh22 : ShSt := ⟨(uu :: (.one (.bptr 0 [] tyS31)) :: uu :: (.one (.arr 20000000)) :: un 4 (ui :: (.one (.bptr 155808 [] tyS35)) :: ui :: un 219 [])), [(0, (.box tyS31 (.dat tyS31))), (20000000, (.arr 5 (.int .u8))), (155808, (.box tyS35 (.dat tyS35)))]⟩
noncomputable def outs22 : List OutC := [⟨(.exit 6), ⟨0, [1, 3, 8], [(3, (5, (.int .u8)))]⟩, ⟨(uu :: (.one (.bptr 0 [] tyS31)) :: uu :: (.one (.arr 20000000)) :: un 4 (ui :: un 221 [])), ob1⟩⟩]
noncomputable def L22 : LC := ⟨22, ⟨22, [1, 3, 8, 9, 10], [(3, (5, (.int .u8)))]⟩, sh22, outs22, pre22, fn22⟩
noncomputable def sh17 : ShSt := ⟨(uu :: (.one (.bptr 0 [] tyS31)) :: uu :: (.one (.arr 20000000)) :: un 4 (ui :: un 221 [])), ob1⟩
noncomputable def outs17 : List OutC := [⟨(.exit 4), ⟨0, [1, 3], [(3, (5, (.int .u8)))]⟩, ⟨(uu :: (.one (.bptr 0 [] tyS31)) :: uu :: (.one (.arr 20000000)) :: un 226 []), ob1⟩⟩]
noncomputable def L17 : LC := ⟨17, ⟨17, [1, 3, 8], [(3, (5, (.int .u8)))]⟩, sh17, outs17, pre17, fn17⟩
noncomputable def sh32 : ShSt := ⟨(uu :: (.one (.bptr 0 [] tyS31)) :: uu :: (.one (.arr 20000000)) :: un 7 (ui :: (.one (.bptr 237728 [] tyS36)) :: ui :: un 216 [])), ob2⟩
noncomputable def outs32 : List OutC := [⟨(.exit 10), ⟨0, [1, 3, 11, 12], [(3, (5, (.int .u8)))]⟩, ⟨(uu :: (.one (.bptr 0 [] tyS31)) :: uu :: (.one (.arr 20000000)) :: un 7 (ui :: (.one (.bptr 237728 [] tyS36)) :: un 217 [])), ob2⟩⟩]
noncomputable def L32 : LC := ⟨32, ⟨32, [1, 3, 11, 12, 13], [(3, (5, (.int .u8)))]⟩, sh32, outs32, pre32, fn32⟩
noncomputable def sh27 : ShSt := ⟨(uu :: (.one (.bptr 0 [] tyS31)) :: uu :: (.one (.arr 20000000)) :: un 7 (ui :: un 218 [])), ob1⟩
noncomputable def outs27 : List OutC := [⟨(.exit 8), ⟨0, [1, 3], [(3, (5, (.int .u8)))]⟩, ⟨(uu :: (.one (.bptr 0 [] tyS31)) :: uu :: (.one (.arr 20000000)) :: un 226 []), ob1⟩⟩]
noncomputable def L27 : LC := ⟨27, ⟨27, [1, 3, 11], [(3, (5, (.int .u8)))]⟩, sh27, outs27, pre27, fn27⟩
noncomputable def sh38 : ShSt := ⟨(uu :: (.one (.bptr 0 [] tyS31)) :: uu :: (.one (.arr 20000000)) :: un 10 (ui :: un 215 [])), ob1⟩
noncomputable def outs38 : List OutC := [⟨(.exit 12), ⟨0, [3], [(3, (5, (.int .u8)))]⟩, ⟨(uu :: uu :: uu :: (.one (.arr 20000000)) :: un 226 []), [(20000000, (.arr 5 (.int .u8)))]⟩⟩]
noncomputable def L38 : LC := ⟨38, ⟨38, [1, 3, 14], [(3, (5, (.int .u8)))]⟩, sh38, outs38, pre38, fn38⟩
noncomputable def H : List LC := [L3, L8, L17, L22, L27, L32, L38]
noncomputable def code (i : Nat) : Code := (loopsOf (bodyOf Try.f77)).getD i .skip
theorem lok3 : LoopOk E H (code 0) L3 := ⟨mu3, fun ⟨x1, x2, x3, ()⟩ hp => rounds_ok (show L3.step E H (code 0) (x1, (x2, (x3, ()))) = raw3 x1 x2 x3 from by kernel_rfl) (ok3 x1 x2 x3 hp)⟩
theorem lok8 : LoopOk E H (code 1) L8 := ⟨mu8, fun ⟨x1, x2, x3, x4, x5, ()⟩ hp => rounds_ok (show L8.step E H (code 1) (x1, (x2, (x3, (x4, (x5, ()))))) = raw8 x1 x2 x3 x4 x5 from by kernel_rfl) (ok8 x1 x2 x3 x4 x5 hp)⟩
theorem lok17 : LoopOk E H (code 2) L17 := ⟨mu17, fun ⟨x1, x2, x3, ()⟩ hp => rounds_ok (show L17.step E H (code 2) (x1, (x2, (x3, ()))) = raw17 x1 x2 x3 from by kernel_rfl) (ok17 x1 x2 x3 hp)⟩
theorem lok22 : LoopOk E H (code 3) L22 := ⟨mu22, fun ⟨x1, x2, x3, x4, x5, ()⟩ hp => rounds_ok (show L22.step E H (code 3) (x1, (x2, (x3, (x4, (x5, ()))))) = raw22 x1 x2 x3 x4 x5 from by kernel_rfl) (ok22 x1 x2 x3 x4 x5 hp)⟩
theorem lok27 : LoopOk E H (code 4) L27 := ⟨mu27, fun ⟨x1, x2, x3, ()⟩ hp => rounds_ok (show L27.step E H (code 4) (x1, (x2, (x3, ()))) = raw27 x1 x2 x3 from by kernel_rfl) (ok27 x1 x2 x3 hp)⟩
theorem lok32 : LoopOk E H (code 5) L32 := ⟨mu32, fun ⟨x1, x2, x3, x4, x5, ()⟩ hp => rounds_ok (show L32.step E H (code 5) (x1, (x2, (x3, (x4, (x5, ()))))) = raw32 x1 x2 x3 x4 x5 from by kernel_rfl) (ok32 x1 x2 x3 x4 x5 hp)⟩
theorem lok38 : LoopOk E H (code 6) L38 := ⟨mu38, fun ⟨x1, x2, x3, ()⟩ hp => rounds_ok (show L38.step E H (code 6) (x1, (x2, (x3, ()))) = raw38 x1 x2 x3 from by kernel_rfl) (ok38 x1 x2 x3 hp)⟩
theorem env : EnvOk Try.prog E := env_cons spec_PutNum.known (env_cons spec_l7Nums.known (env_cons spec_PutText.known (env_nil tys)))
theorem loops : ∀ c, Try.f77.body = some c → LoopsOk E H c := loops_of (by kernel_rfl) (by kernel_rfl) fun i l h => match i, h with
  | 0, h => Option.some.inj h ▸ lok3
  | 1, h => Option.some.inj h ▸ lok8
  | 2, h => Option.some.inj h ▸ lok17
  | 3, h => Option.some.inj h ▸ lok22
  | 4, h => Option.some.inj h ▸ lok27
  | 5, h => Option.some.inj h ▸ lok32
  | 6, h => Option.some.inj h ▸ lok38
  | n + 7, h => by cases h
theorem sound : Sound Try.prog 77 fs := fn_sound env mixed Try.func77 H loops fun ⟨x0, ()⟩ hw hp => (show runFn E H Try.f77 fs.ps fs.rs (x0, ()) = raw x0 from by kernel_rfl).trans (eq x0 hw hp)
theorem known : Seen Try.prog 77 fs := ⟨sound, _, Try.func77, by kernel_rfl, by kernel_rfl⟩
end spec_l7Bytes
namespace spec_l8DrawEntries
noncomputable def ob1 : List (Nat × ShO) := [(10000000, (.box (.pair (.sl 5 (.int .u8)) tyS38) (.dat (.pair (.sl 5 (.int .u8)) tyS38)))), (20000000, (.arr 89 (.pair (.int .i64) (.pair tyS32 .unit))))]
noncomputable def fs : FS := ⟨[(.ref (.pair (.sl 5 (.int .u8)) tyS38) .f), (.val (.int .i64) .f), (.val (.int .i64) .f)], [((.sl 89 (.pair (.int .i64) (.pair tyS32 .unit))), .o)], fun x => spec_l8DrawEntries.pre x.1 x.2.1 x.2.2.1, fun x => (((spec_l8DrawEntries x.1 x.2.1 x.2.2.1).1, ()), ((spec_l8DrawEntries x.1 x.2.1 x.2.2.1).2, ()))⟩
noncomputable def E : Env := ⟨theta, [(73, spec_l1Below.fs), (114, spec_l2DrawRight.fs)], []⟩
noncomputable def sh4 : ShSt := ⟨((.one (.bptr 10000000 [] (.pair (.sl 5 (.int .u8)) tyS38))) :: ui :: un 5 ((.one (.arr 20000000)) :: ui :: ui :: un 22 [])), ob1⟩
noncomputable def outs4 : List OutC := [⟨(.exit 0), ⟨0, [7, 0], [(7, (89, (.pair (.int .i64) (.pair tyS32 .unit))))]⟩, ⟨((.one (.bptr 10000000 [] (.pair (.sl 5 (.int .u8)) tyS38))) :: un 6 ((.one (.arr 20000000)) :: un 24 [])), ob1⟩⟩]
noncomputable def L4 : LC := ⟨4, ⟨4, [0, 1, 7, 8, 9], [(7, (89, (.pair (.int .i64) (.pair tyS32 .unit))))]⟩, sh4, outs4, pre4, fn4⟩
noncomputable def H : List LC := [L4]
noncomputable def code (i : Nat) : Code := (loopsOf (bodyOf Try.f78)).getD i .skip
theorem lok4 : LoopOk E H (code 0) L4 := ⟨mu4, fun ⟨x1, x2, x3, x4, x5, ()⟩ hp => rounds_ok (show L4.step E H (code 0) (x1, (x2, (x3, (x4, (x5, ()))))) = raw4 x1 x2 x3 x4 x5 from by kernel_rfl) (ok4 x1 x2 x3 x4 x5 hp)⟩
theorem env : EnvOk Try.prog E := env_cons spec_l1Below.known (env_cons spec_l2DrawRight.known (env_nil tys))
theorem loops : ∀ c, Try.f78.body = some c → LoopsOk E H c := loops_of (by kernel_rfl) (by kernel_rfl) fun i l h => match i, h with
  | 0, h => Option.some.inj h ▸ lok4
  | n + 1, h => by cases h
theorem sound : Sound Try.prog 78 fs := fn_sound env mixed Try.func78 H loops fun ⟨x0, x1, x2, ()⟩ hw hp => (show runFn E H Try.f78 fs.ps fs.rs (x0, (x1, (x2, ()))) = raw x0 x1 x2 from by kernel_rfl).trans (eq x0 x1 x2 hw hp)
theorem known : Seen Try.prog 78 fs := ⟨sound, _, Try.func78, by kernel_rfl, by kernel_rfl⟩
end spec_l8DrawEntries
namespace spec_l9DrawRight
noncomputable def fs : FS := ⟨[(.ref (.pair (.sl 5 (.int .u8)) tyS38) .f)], [(tyS37, .o)], fun x => spec_l9DrawRight.pre x.1, fun x => (((spec_l9DrawRight x.1).1, ()), ((spec_l9DrawRight x.1).2, ()))⟩
noncomputable def E : Env := ⟨theta, [(73, spec_l1Below.fs), (76, spec_l6DrawRight.fs), (77, spec_l7Bytes.fs), (78, spec_l8DrawEntries.fs)], []⟩
noncomputable def H : List LC := []
theorem env : EnvOk Try.prog E := env_cons spec_l1Below.known (env_cons spec_l6DrawRight.known (env_cons spec_l7Bytes.known (env_cons spec_l8DrawEntries.known (env_nil tys))))
theorem loops : ∀ c, Try.f41.body = some c → LoopsOk E H c := loops_none (by kernel_rfl)
theorem sound : Sound Try.prog 41 fs := fn_sound env mixed Try.func41 H loops fun ⟨x0, ()⟩ hw hp => (show runFn E H Try.f41 fs.ps fs.rs (x0, ()) = raw x0 from by kernel_rfl).trans (eq x0 hw hp)
theorem known : Seen Try.prog 41 fs := ⟨sound, _, Try.func41, by kernel_rfl, by kernel_rfl⟩
end spec_l9DrawRight
namespace spec_l9List
noncomputable def fs : FS := ⟨[(.val (.sl 89 (.pair (.int .i64) (.pair tyS32 .unit))) .f), (.val (.int .i64) .f)], [(.bool, .o)], fun _ => true, fun x => ((), ((spec_l9List x.1 x.2.1), ()))⟩
noncomputable def E : Env := ⟨theta, [(38, spec_l1In.fs), (117, spec_CmdOk.fs)], []⟩
noncomputable def sh2 : ShSt := ⟨((.one (.dat (.sl 89 (.pair (.int .i64) (.pair tyS32 .unit))))) :: ui :: uu :: uu :: uu :: ui :: un 26 []), []⟩
noncomputable def outs2 : List OutC := [⟨.ret, ⟨0, [4], []⟩, ⟨(un 4 ((.one (.dat .bool)) :: un 27 [])), []⟩⟩, ⟨(.exit 0), ⟨0, [0], []⟩, ⟨((.one (.dat (.sl 89 (.pair (.int .i64) (.pair tyS32 .unit))))) :: un 31 []), []⟩⟩]
noncomputable def L2 : LC := ⟨2, ⟨2, [0, 1, 5], []⟩, sh2, outs2, pre2, fn2⟩
noncomputable def H : List LC := [L2]
noncomputable def code (i : Nat) : Code := (loopsOf (bodyOf Try.f88)).getD i .skip
theorem lok2 : LoopOk E H (code 0) L2 := ⟨mu2, fun ⟨x1, x2, x3, ()⟩ hp => rounds_ok (show L2.step E H (code 0) (x1, (x2, (x3, ()))) = raw2 x1 x2 x3 from by kernel_rfl) (ok2 x1 x2 x3 hp)⟩
theorem env : EnvOk Try.prog E := env_cons spec_l1In.known (env_cons spec_CmdOk.known (env_nil tys))
theorem loops : ∀ c, Try.f88.body = some c → LoopsOk E H c := loops_of (by kernel_rfl) (by kernel_rfl) fun i l h => match i, h with
  | 0, h => Option.some.inj h ▸ lok2
  | n + 1, h => by cases h
theorem sound : Sound Try.prog 88 fs := fn_sound env mixed Try.func88 H loops fun ⟨x0, x1, ()⟩ hw _ => (show runFn E H Try.f88 fs.ps fs.rs (x0, (x1, ())) = raw x0 x1 from by kernel_rfl).trans (eq x0 x1 hw)
theorem known : Seen Try.prog 88 fs := ⟨sound, _, Try.func88, by kernel_rfl, by kernel_rfl⟩
end spec_l9List
namespace spec_NoteOk
noncomputable def fs : FS := ⟨[(.val tyS37 .f)], [(.bool, .o)], fun _ => true, fun x => ((), ((spec_NoteOk x.1), ()))⟩
noncomputable def E : Env := ⟨theta, [(38, spec_l1In.fs), (88, spec_l9List.fs)], []⟩
noncomputable def H : List LC := []
theorem env : EnvOk Try.prog E := env_cons spec_l1In.known (env_cons spec_l9List.known (env_nil tys))
theorem loops : ∀ c, Try.f47.body = some c → LoopsOk E H c := loops_none (by kernel_rfl)
theorem sound : Sound Try.prog 47 fs := fn_sound env mixed Try.func47 H loops fun ⟨x0, ()⟩ hw _ => (show runFn E H Try.f47 fs.ps fs.rs (x0, ()) = raw x0 from by kernel_rfl).trans (eq x0 hw)
theorem known : Seen Try.prog 47 fs := ⟨sound, _, Try.func47, by kernel_rfl, by kernel_rfl⟩
end spec_NoteOk
namespace spec_CmdBytes
noncomputable def fs : FS := ⟨[(.val tyS32 .f)], [((.sl 5 (.int .u8)), .o)], fun _ => true, fun x => ((), ((spec_CmdBytes x.1), ()))⟩
noncomputable def E : Env := ⟨theta, [(117, spec_CmdOk.fs), (113, spec_l7Nums.fs), (109, spec_PutText.fs)], []⟩
noncomputable def H : List LC := []
theorem env : EnvOk Try.prog E := env_cons spec_CmdOk.known (env_cons spec_l7Nums.known (env_cons spec_PutText.known (env_nil tys)))
theorem loops : ∀ c, Try.f108.body = some c → LoopsOk E H c := loops_none (by kernel_rfl)
theorem sound : Sound Try.prog 108 fs := fn_sound env mixed Try.func108 H loops fun ⟨x0, ()⟩ hw _ => (show runFn E H Try.f108 fs.ps fs.rs (x0, ()) = raw x0 from by kernel_rfl).trans (eq x0 hw)
theorem known : Seen Try.prog 108 fs := ⟨sound, _, Try.func108, by kernel_rfl, by kernel_rfl⟩
end spec_CmdBytes
namespace spec_l9Body
noncomputable def ob1 : List (Nat × ShO) := [(0, (.box tyS37 (.dat tyS37))), (20000000, (.arr 5 (.int .u8)))]
noncomputable def fs : FS := ⟨[(.val tyS37 .f)], [((.sl 5 (.int .u8)), .o)], fun x => spec_l9Body.pre x.1, fun x => ((), ((spec_l9Body x.1), ()))⟩
noncomputable def E : Env := ⟨theta, [(75, spec_PutNum.fs), (109, spec_PutText.fs), (108, spec_CmdBytes.fs)], []⟩
noncomputable def sh6 : ShSt := ⟨(uu :: (.one (.bptr 0 [] tyS37)) :: uu :: (.one (.arr 20000000)) :: ui :: un 52 []), ob1⟩
noncomputable def outs6 : List OutC := [⟨(.exit 0), ⟨0, [1, 3], [(3, (5, (.int .u8)))]⟩, ⟨(uu :: (.one (.bptr 0 [] tyS37)) :: uu :: (.one (.arr 20000000)) :: un 53 []), ob1⟩⟩]
noncomputable def L6 : LC := ⟨6, ⟨6, [1, 3, 4], [(3, (5, (.int .u8)))]⟩, sh6, outs6, pre6, fn6⟩
noncomputable def H : List LC := [L6]
noncomputable def code (i : Nat) : Code := (loopsOf (bodyOf Try.f74)).getD i .skip
theorem lok6 : LoopOk E H (code 0) L6 := ⟨mu6, fun ⟨x1, x2, x3, ()⟩ hp => rounds_ok (show L6.step E H (code 0) (x1, (x2, (x3, ()))) = raw6 x1 x2 x3 from by kernel_rfl) (ok6 x1 x2 x3 hp)⟩
theorem env : EnvOk Try.prog E := env_cons spec_PutNum.known (env_cons spec_PutText.known (env_cons spec_CmdBytes.known (env_nil tys)))
theorem loops : ∀ c, Try.f74.body = some c → LoopsOk E H c := loops_of (by kernel_rfl) (by kernel_rfl) fun i l h => match i, h with
  | 0, h => Option.some.inj h ▸ lok6
  | n + 1, h => by cases h
theorem sound : Sound Try.prog 74 fs := fn_sound env mixed Try.func74 H loops fun ⟨x0, ()⟩ hw hp => (show runFn E H Try.f74 fs.ps fs.rs (x0, ()) = raw x0 from by kernel_rfl).trans (eq x0 hw hp)
theorem known : Seen Try.prog 74 fs := ⟨sound, _, Try.func74, by kernel_rfl, by kernel_rfl⟩
end spec_l9Body
end
end Go.Aw.Pl
